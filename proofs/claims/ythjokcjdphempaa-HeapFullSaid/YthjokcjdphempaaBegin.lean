/- (*Heap).begin: a collection of the old area begins. -/
import Derived.Test.YthjokcjdphempaaEmptied
namespace Go.Proofs.Ythjokcjdphempaa
open Go.RowKit Hp Go.Shelf

theorem _root_.Go.Proofs.Ythjokcjdphempaa.Hp.WInv.setMoves {A : AHeap} {quiet : Prop} {s0 : HS} {G0 : Areas} {φ0 : Nat → Int} {D : Ptr → Prop} {out : List Nat} {s : HS} {G : Areas} {φ : Nat → Int} {b : Bool}
    (h : WInv A none quiet { s0 with moves := b } G0 φ0 D out s G φ) : WInv A none quiet s0 G0 φ0 D out { s with moves := s0.moves } G φ :=
  { h with
    rep := h.rep.congr (fun _ _ => rfl) rfl rfl rfl
    same := ⟨h.same.objs, h.same.words, h.same.worst, h.same.minors, h.same.majors, h.same.room, h.same.young, h.same.now, h.same.todo, rfl, h.same.bound, h.same.big⟩
    acc := fun a ha => by cases ha
    locs := h.locs }

/-- The references of a list that lie in an area. -/
def inArea (now : Nat) (l : List Int) : List Int := l.filter fun r => aOf r == now

theorem inArea_snoc (now : Nat) (l : List Int) (r : Int) : inArea now (l ++ [r]) = if aOf r = now then inArea now l ++ [r] else inArea now l := by
  unfold inArea
  rw [List.filter_append]
  by_cases h : aOf r = now
  · simp [h]
  · simp [h]

set_option maxRecDepth 100000 in
set_option maxHeartbeats 2000000 in
theorem begin_core {hb now N : Nat} {w : World} {M : World → Value → Prop} {J : Value → Nat → World → Prop} {xs : List Int} {E : World → Prop}
    (hnow : now < 2) (hNs : N ≤ 900000000000) (hxs : ∀ i, i < N → 1 ≤ xs.getD i 0 ∧ xs.getD i 0 ≤ 4611686018427387904)
    (d1 : ∃ bv, w.cell? ⟨hb, 14, none⟩ = some (.bool bv)) (f1 : w.frozen? ⟨hb, 14, none⟩ = false)
    (H41 : Calls Try.prog 41 #[.pointer (some ⟨hb, 0, none⟩), .func (.func 83) #[] #[]] (w.setCell ⟨hb, 14, none⟩ (.bool true)) fun e w' => ∃ lv, e = .returned lv ∧ M w' lv)
    (hM : ∀ w1 lv, M w1 lv → (∃ a c, lv = .slice a N c ∧ N ≤ c) ∧ J lv 0 w1)
    (hJ : ∀ lv i W, J lv i W → i < N → ∃ b o c, lv = .slice (some ⟨b, o, none⟩) N c ∧ N ≤ c ∧ W.cell? ⟨b, o + i, none⟩ = some (.int .i64 (xs.getD i 0)) ∧ W.cell? ⟨hb, 11, none⟩ = some (.int .i64 now) ∧
      ((aOf (xs.getD i 0) ≠ now ∧ J lv (i + 1) W) ∨ (aOf (xs.getD i 0) = now ∧ ∃ ta tl tc ta' tc' W', W.cell? ⟨hb, 13, none⟩ = some (.slice ta tl tc) ∧
        (Builtin.append_ #[35, 35] 35 #[.slice ta tl tc, .slice (some ⟨W.heap.size, 0, none⟩) 1 1]).run Try.prog (W.alloc (.cells #[.int .i64 (xs.getD i 0)] 3)) = .ok (.slice ta' (tl + 1) tc') W' ∧
        W'.cell? ⟨hb, 13, none⟩ = some (.slice ta tl tc) ∧ W'.frozen? ⟨hb, 13, none⟩ = false ∧ J lv (i + 1) (W'.setCell ⟨hb, 13, none⟩ (.slice ta' (tl + 1) tc')))))
    (hE : ∀ lv W, J lv N W → W.cell? ⟨hb, 11, none⟩ = some (.int .i64 now) ∧ W.frozen? ⟨hb, 11, none⟩ = false ∧ E (W.setCell ⟨hb, 11, none⟩ (.int .i64 (1 - (now : Int))))) :
    Calls Try.prog 58 #[.pointer (some ⟨hb, 0, none⟩)] w fun e w' => e = .returned (.tuple #[]) ∧ E w' := by
  have A41 := Lib.hid H41
  have AM := Lib.hid hM
  have AJ := Lib.hid hJ
  have AE := Lib.hid hE
  have AX := Lib.hid hxs
  obtain ⟨bv, d1⟩ := d1
  clear H41 hM hJ hE hxs
  go_enter Try.func58, Try.ntmps58
  go_wp2_with (go_at_call 41; refine A41.out.mono ?_; rintro e w1 ⟨lv, rfl, hm⟩; have ⟨⟨a, c, hlv, hNc⟩, hj0⟩ := AM.out w1 lv hm; have HJ0 := Lib.hid hj0; clear hm hj0 d1 f1; subst hlv)
  go_loopw [12] (fun t wr => ∃ i : Nat, t = .int .i64 i ∧ i ≤ N ∧ J (.slice a N c) i wr) (fun t _ => N - (intOf t).toNat)
  case atStart => exact ⟨0, rfl, Nat.zero_le _, HJ0.out⟩
  case round =>
    obtain ⟨i, rfl, hi, hj⟩ := hrel
    clear HJ0
    by_cases hlt : i < N
    · obtain ⟨b, o, c', e1, hNc', k1, k2, hcase⟩ := AJ.out _ i wr hj hlt
      cases e1
      obtain ⟨x1, x2⟩ := AX.out i hlt
      obtain ⟨x, hx⟩ : ∃ x, x = xs.getD i 0 := ⟨_, rfl⟩
      rw [← hx] at k1 x1 x2 hcase
      have HA := Lib.hid (fun w => areaOf_any x w x1 x2)
      obtain ⟨y, hy⟩ : ∃ y, y = aOf x := ⟨_, rfl⟩
      rw [← hy] at HA hcase
      clear hx hy x1 x2 hj
      rcases hcase with ⟨hne, hj1⟩ | ⟨heq, ta, tl, tc, ta', tc', W', k3, hr, k4, k5, hj1⟩
      · have hne' : ((y : Int) == (now : Int)) = false := by simp; omega
        have HJ1 := Lib.hid hj1
        clear hj1
        go_wp2_with (go_at_call 79; refine (HA.out _).mono ?_; rintro e w' ⟨rfl, rfl⟩)
        go_roundw
        case rel => exact ⟨i + 1, by go_num, by omega, HJ1.out⟩
        case measure => simp [intOf]; omega
      · subst heq
        have HJ1 := Lib.hid hj1
        have HR := Lib.hid hr
        clear hj1 hr
        go_wp2_with (first | (go_at_call 79; refine (HA.out _).mono ?_; rintro e w' ⟨rfl, rfl⟩) | (at_builtin; refine Lib.wpList_append_run _ rfl _ _ _ _ rfl _ _ rfl rfl _ _ HR.out ?_))
        go_roundw
        case rel => exact ⟨i + 1, by go_num, by omega, HJ1.out⟩
        case measure => simp [intOf]; omega
    · have hin : i = N := by omega
      subst hin
      obtain ⟨k1, k2, hfin⟩ := AE.out _ _ hj
      have HF := Lib.hid hfin
      clear hfin hj
      go_wp2
      go_end0
      exact ⟨rfl, HF.out⟩
end Go.Proofs.Ythjokcjdphempaa

namespace Go.Proofs.Ythjokcjdphempaa
open Go.RowKit Hp Go.Shelf

theorem one_cell (W : World) (x : Int) : ∀ (j : Nat) (y : Int), [x][j]? = some y → (W.alloc (.cells #[.int .i64 x] 3)).cell? ((⟨W.heap.size, 0, none⟩ : Addr).add j) = some (.int .i64 y) := by
  intro j y hy
  cases j with
  | zero =>
    cases hy
    have : (W.alloc (.cells #[.int .i64 x] 3)).heap[W.heap.size]? = some (.cells #[.int .i64 x] 3) := World.alloc_heap_new W _
    show World.cell? _ ⟨W.heap.size, 0, none⟩ = _
    simp only [World.cell?, this]
    rfl
  | succ j => simp at hy

/-- What holds in the loop of (*Heap).begin when i references have been gone through. -/
def BegJ (hb : Nat) (A : AHeap) (s : HS) (G : Areas) (φ : Nat → Int) (L : Lay) (w : World) (lv : Value) (i : Nat) (W : World) : Prop :=
  ∃ s' G' L', WInv A none False { s with moves := true } G φ (DF A) A.search s' G' φ ∧ HRep W hb L' { s' with todo := inArea s.now ((A.search.map φ).take i) } ∧ Left hb L L' w W ∧ L'.v 3 = L.v 3 ∧
    IsSl W lv (A.search.map φ) ∧ ∀ k, lv.ownBlock = some k → ¬ L'.foot hb k

set_option maxHeartbeats 1000000 in
theorem begin_any {hb : Nat} {A : AHeap} {s : HS} {G : Areas} {φ : Nat → Int} {L : Lay} {w : World} (hr : HRep w hb L s) (hi : InvG s G φ A) (hz : Sized s A) (hmv : s.moves = false) :
    Calls Try.prog 58 #[.pointer (some ⟨hb, 0, none⟩)] w fun e w' => e = .returned (.tuple #[]) ∧
      ∃ s' G' L', WInv A none False { s with moves := true } G φ (DF A) A.search s' G' φ ∧ HRep w' hb L' { s' with todo := inArea s.now (A.search.map φ), now := 1 - s.now } ∧ Left hb L L' w w' ∧ L'.v 3 = L.v 3 := by
  have hn := hi.rep.now
  have hidle := hi.idle hmv
  have r1 : HRep (w.setCell ⟨hb, 14, none⟩ (.bool true)) hb L { s with moves := true } := hr.scalar 14 _ rfl (fun i _ => rfl)
  have hst : WInv A none False { s with moves := true } G φ (fun _ => False) [] { s with moves := true } G φ :=
    WInv.start (hi.rep.congr (fun _ _ => rfl) rfl rfl rfl) (fun _ h => h) (fun a ha => by cases ha) (fun h => h.elim)
  have hcount : A.search.length ≤ 900000000000 := by have := outAt_length hi.rep.wf A.objs.length; have := hz.count; unfold AHeap.search; omega
  refine begin_core (now := s.now) (N := A.search.length) (xs := A.search.map φ) (M := fun w1 lv => BegJ hb A s G φ L w lv 0 w1) (J := BegJ hb A s G φ L w)
    (E := fun w' => ∃ s' G' L', WInv A none False { s with moves := true } G φ (DF A) A.search s' G' φ ∧ HRep w' hb L' { s' with todo := inArea s.now (A.search.map φ), now := 1 - s.now } ∧ Left hb L L' w w' ∧ L'.v 3 = L.v 3)
    hn hcount ?_ ⟨_, hr.cell rfl⟩ (by simp [World.frozen?, hr.blk]) ?_ ?_ ?_ ?_
  · intro i hlt
    have hm : A.search[i]? = some A.search[i] := List.getElem?_eq_getElem hlt
    have hre : Hp.Reach A A.search[i] := (mem_search hi.rep.wf).1 (List.mem_of_getElem? hm)
    have e : (A.search.map φ).getD i 0 = φ A.search[i] := by rw [List.getD_eq_getElem?_getD, List.getElem?_map, hm]; rfl
    obtain ⟨at1, _⟩ := obj_at hi.rep hz.small hre
    rw [e]
    exact ⟨at1.pos, at1.fit⟩
  · refine (walk_any r1 hst hz.len hz.count hz.nslots (fun _ h => by cases h) (move_id id83 rfl rfl) (enters_of Try.func83 (by kernel_rfl) rfl)).mono ?_
    rintro e w' ⟨L', s', G', φ', lv, rfl, h1, h2, h3, h4, h5, h6⟩
    obtain ⟨_, _, q3⟩ := h2.still (.inl rfl)
    subst q3
    have hfL : ∀ k, L'.foot hb k → L.foot hb k := by
      intro k hk
      rcases hk with rfl | ⟨i, hi', hk⟩
      · exact .inl rfl
      · exact .inr ⟨i, hi', by rw [← (h3 i hi').own]; exact hk⟩
    have htd : s' = { s' with todo := inArea s.now ((A.search.map φ').take 0) } := by
      have : s'.todo = [] := h2.same.todo.trans hidle.1
      rw [List.take_zero]
      show s' = { s' with todo := [] }
      rw [← this]
    refine ⟨lv, rfl, s', G', L', h2, by rw [← htd]; exact h1, ?_, base_eq (h3 3 (by omega)) hr.slots h1.slots h2.slen.symm, h5, fun k hk hf => ?_⟩
    · exact (left_setCell w hb L (.inl rfl) 14 _).trans ⟨h4, fun k hk => .inl (hfL k hk)⟩
    · have := h6 k hk
      have := hr.lt (hfL k hf)
      simp at *
      omega
  · rintro w1 lv hJ
    have hJ' := hJ
    obtain ⟨s', G', L', _, _, _, _, hl, _⟩ := hJ
    obtain ⟨a, c, e⟩ := hl.shape
    have hc := (hl.caps e).2.1
    rw [List.length_map] at e hc
    exact ⟨⟨a, c, e, hc⟩, hJ'⟩
  · rintro lv i W ⟨s', G', L', h2, h1, hleft, hv3, hl, hown⟩ hlt
    obtain ⟨lb, lo, lc, e1, l1, l2, _⟩ := hl.get (i := i) (by simpa using hlt)
    have l3 := l2 i (by simpa using hlt)
    rw [List.length_map] at e1 l1
    have hnow' : s'.now = s.now := h2.same.now
    have et : (A.search.map φ).take (i + 1) = (A.search.map φ).take i ++ [(A.search.map φ).getD i 0] := by
      rw [List.take_add_one, List.getD_eq_getElem?_getD, List.getElem?_eq_getElem (by simpa using hlt)]; rfl
    refine ⟨lb, lo, lc, e1, l1, l3, by rw [← hnow']; exact h1.cell rfl, ?_⟩
    by_cases hA : aOf ((A.search.map φ).getD i 0) = s.now
    · right
      refine ⟨hA, ?_⟩
      obtain ⟨x, hx⟩ : ∃ x, x = (A.search.map φ).getD i 0 := ⟨_, rfl⟩
      rw [← hx] at et hA ⊢
      obtain ⟨t, ht⟩ : ∃ t, t = inArea s.now ((A.search.map φ).take i) := ⟨_, rfl⟩
      rw [← ht] at h1
      obtain ⟨ta, tc, ev⟩ := h1.todo.shape
      have fA : Fr (fun _ => False) W (W.alloc (.cells #[.int .i64 x] 3)) := ⟨rfl, rfl, rfl, by simp, fun k hk _ => Below.heap_alloc W _ k hk⟩
      have rA := h1.of_fr fA (fun _ _ h => h)
      have htl : t.length ≤ 900000000000 := by
        rw [ht]; unfold inArea
        refine Nat.le_trans (List.length_filter_le _ _) ?_
        simp; omega
      have happ := run_app (w := W.alloc (.cells #[.int .i64 x] 3)) rA.todo (ad := ⟨W.heap.size, 0, none⟩) (c := 1) (ys := [x]) 35 (one_cell W x) (by show t.length + 1 ≤ _; omega)
      obtain ⟨v', W', hrun, ha⟩ := happ
      obtain ⟨ta', tc', ev'⟩ := ha.new.shape
      have hlen : (t ++ [x]).length = t.length + 1 := by simp
      rw [ev, ev'] at hrun
      have r4 := rA.list (i := 4) (by omega) (v' := v') (l := t ++ [x]) ha.new ha.fr (ha.blk.elim .inl fun h => .inr (.inr h))
      have l4 : Left hb L' (L'.set 4 v') (W.alloc (.cells #[.int .i64 x] 3)) (W'.setCell ⟨hb, 13, none⟩ v') := HRep.left_list (i := 4) (by omega) 13 ha.fr (ha.blk.elim .inl fun h => .inr (.inr h))
      have lA : Left hb L' L' W (W.alloc (.cells #[.int .i64 x] 3)) := ⟨fA.mono fun _ h => h.elim, fun k hk => .inl hk⟩
      have hbW : W'.heap[hb]? = W.heap[hb]? := by
        rw [ha.fr.block hb (by have := h1.lt (k := hb) (.inl rfl); simp; omega) (h1.off 4 (by omega))]
        exact Below.heap_alloc W _ _ (h1.lt (.inl rfl))
      refine ⟨ta, t.length, tc, ta', tc', W', by rw [← ev]; exact h1.cell rfl, ?_, ?_, ?_, ?_⟩
      · rw [hlen] at hrun; exact hrun
      · rw [cell_of_heap (a := ⟨hb, 13, none⟩) hbW, ← ev]; exact h1.cell rfl
      · rw [frozen_of_heap (a := ⟨hb, 13, none⟩) hbW]; simp [World.frozen?, h1.blk]
      · rw [show (Value.slice ta' (t.length + 1) tc') = v' by rw [ev', hlen]]
        refine ⟨s', G', L'.set 4 v', h2, ?_, hleft.trans (lA.trans l4), (Lay.set_other _ _ (by omega)).trans hv3, ?_, ?_⟩
        · rw [et, inArea_snoc, if_pos hA, ← ht]
          exact r4
        · refine hl.of_block fun k hk => ?_
          have hk1 := hown k hk
          rw [setCell_other _ _ _ _ (fun e => hk1 (.inl e)), ha.fr.block k (by have := hl.lt hk; simp; omega) (fun e => hk1 (ownBlock_foot (i := 4) (by omega) e))]
          exact Below.heap_alloc W _ _ (hl.lt hk)
        · intro k hk hf
          rcases (lA.trans l4).foot k hf with h | h
          · exact hown k hk h
          · have := hl.lt hk; omega
    · left
      refine ⟨hA, s', G', L', h2, ?_, hleft, hv3, hl, hown⟩
      rw [et, inArea_snoc, if_neg hA]
      exact h1
  · rintro lv W ⟨s', G', L', h2, h1, hleft, hv3, hl, hown⟩
    have hnow' : s'.now = s.now := h2.same.now
    have hfull : (A.search.map φ).take A.search.length = A.search.map φ := List.take_of_length_le (by simp)
    rw [hfull] at h1
    refine ⟨by rw [← hnow']; exact h1.cell rfl, by simp [World.frozen?, h1.blk], s', G', L', h2, ?_, hleft.trans (left_setCell W hb L' (.inl rfl) 11 _), hv3⟩
    refine h1.scalar 11 _ ?_ (fun i _ => rfl)
    have : ((1 - s.now : Nat) : Int) = 1 - (s.now : Int) := by omega
    rw [← this]; rfl

/-- What (*Heap).begin leaves. -/
structure Begun (hb : Nat) (A : AHeap) (φ : Nat → Int) (L : Lay) (s : HS) (w w' : World) (L' : Lay) (s' : HS) (G' : Areas) : Prop where
  rep : HRep w' hb L' s'
  inv : InvG s' G' φ A
  same : Same { s with moves := true, todo := s'.todo, now := 1 - s.now } s'
  copied : s'.copied = s.copied
  lens : ∀ k, (s'.ar k).length = (s.ar k).length
  sum : (todoSum s' : Int) ≤ A.live
  all : (∀ m, Hp.Reach A m → aOf (φ m) = s.now) → (todoSum s' : Int) = A.live
  slen : s'.slots.length = s.slots.length
  left : Left hb L L' w w'
  v3 : L'.v 3 = L.v 3

theorem began_any {hb : Nat} {A : AHeap} {s : HS} {G : Areas} {φ : Nat → Int} {L : Lay} {w : World} (hr : HRep w hb L s) (hi : InvG s G φ A) (hz : Sized s A) (hmv : s.moves = false) :
    Calls Try.prog 58 #[.pointer (some ⟨hb, 0, none⟩)] w fun e w' => e = .returned (.tuple #[]) ∧ ∃ L' s' G', Begun hb A φ L s w w' L' s' G' := by
  refine (begin_any hr hi hz hmv).mono ?_
  rintro e w' ⟨rfl, s', G', L', h1, h2, h3, hv3⟩
  have hm : s'.moves = true := h1.same.moves
  have h4 : WInv A none False s G φ (DF A) A.search { s' with moves := s.moves } G' φ := WInv.setMoves h1
  obtain ⟨q1, q2, q3, q4, q5, q6⟩ := hi.begin hmv h4 (through_DF A)
  have e1 : { s' with todo := inArea s.now (A.search.map φ), now := 1 - s.now } = { { s' with moves := s.moves } with moves := true, todo := (A.search.map φ).filter fun r => aOf r == s.now, now := 1 - s.now } := by
    rw [← hm]; rfl
  rw [e1] at h2
  refine ⟨rfl, L', _, G', ⟨h2, q1, ?_, q5, q4, q2, q6, h4.slen, h3, hv3⟩⟩
  have hs := h4.same
  exact ⟨hs.objs, hs.words, hs.worst, hs.minors, hs.majors, hs.room, hs.young, rfl, rfl, rfl, hs.bound, hs.big⟩
end Go.Proofs.Ythjokcjdphempaa
