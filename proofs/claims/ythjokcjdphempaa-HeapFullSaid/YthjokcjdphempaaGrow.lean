/- The closure of Grow; made. -/
import Derived.Test.YthjokcjdphempaaClo
namespace Go.Proofs.Ythjokcjdphempaa
open Go.RowKit Hp Go.Shelf

theorem wp_zapp {o : Oper} {a : Act} {w : World} {K : Act → World → Prop} {Q : Exit → Act → World → Prop}
    (s x : Operand) (hop : o.op = Op.call { callee := Callee.builtin Builtin.append, args := #[s, x], argTypes := #[35, 3] }) {vs : Value} {k : Int} {n : Nat} {xs : List Int} (hs : a.eval s = vs) (hx : a.eval x = .int .i64 k) (hk : k = (n : Int))
    (hsl : IsSl w vs xs) (hl : xs.length + n ≤ 1000000000000)
    (hK : ∀ v' w', Appended w w' vs v' xs (List.replicate n 0) → K (a.put o.dst v') w') : Oper.wp Try.prog o a w K Q := by
  obtain ⟨v', w', hr, ha⟩ := run_zapp hsl n o.type hl
  subst hk
  exact Lib.wp_append_run w s x 35 3 hop vs (.int .i64 n) hs hx v' w' hr (hK v' w' ha)

set_option maxRecDepth 100000 in
set_option maxHeartbeats 2000000 in
theorem grow_clo {hb nx hx : Nat} {n : Nat} {w : World} {L : Lay} {s : HS} (hr : HRep w hb L s) (c1 : w.cell? ⟨hx, 0, none⟩ = some (.pointer (some ⟨hb, 0, none⟩))) (c2 : w.cell? ⟨nx, 0, none⟩ = some (.int .i64 n))
    (n1 : ¬ L.foot hb hx) (n2 : ¬ L.foot hb nx) (hn : n + s.slots.length ≤ 4096) :
    Calls Try.prog 66 #[.pointer (some ⟨nx, 0, none⟩), .pointer (some ⟨hx, 0, none⟩)] w fun e w' => e = .returned (.tuple #[]) ∧ ∃ L', HRep w' hb L' { s with slots := s.slots ++ List.replicate n 0 } ∧ Left hb L L' w w' := by
  obtain ⟨a, cap, e⟩ := hr.slots.shape
  have d1 := hr.c12
  rw [e] at d1
  have HR := Lib.hid hr
  have HSl := Lib.hid hr.slots
  have hoff := hr.off 3 (by omega)
  have lh := hr.lt (.inl rfl)
  have lx := World.block_lt_of_cell? _ _ c1
  have ln := World.block_lt_of_cell? _ _ c2
  have ox : (L.v 3).ownBlock ≠ some hx := fun h => n1 (ownBlock_foot (by omega) h)
  have on : (L.v 3).ownBlock ≠ some nx := fun h => n2 (ownBlock_foot (by omega) h)
  have F1 := Lib.hid hr.froz
  have hE := Lib.hid e
  rw [e] at HSl hoff ox on
  have B := Lib.hid (And.intro hoff (And.intro ox on))
  have hlen : n + s.slots.length ≤ 4096 := hn
  obtain ⟨sl, hsl⟩ : ∃ sl, sl = s.slots.length := ⟨_, rfl⟩
  have Hl := Lib.hid hsl
  rw [← hsl] at d1 hlen hE HSl B hn
  have hd : (n : Int) ≤ 4096 - (sl : Int) := by omega
  clear hr hoff ox on e n1 n2 hsl
  go_enter Try.func66, Try.ntmps66
  go_wp2_with (go_at_call 51; refine (fail_yes _ _).mono ?_; rintro e w' ⟨rfl, rfl⟩)
  go_quiet ((go_at_call 51; exact quiet_same (fail_yes _ _)))
  go_wp2
  refine wp_region_z (fun W => W.cell? ⟨hx, 0, none⟩ = some (.pointer (some ⟨hb, 0, none⟩)) ∧ W.cell? ⟨nx, 0, none⟩ = some (.int .i64 n) ∧ W.cell? ⟨hb, 12, none⟩ = some (.slice a sl cap)) 9 (by kernel_rfl) ?_
  have hS : (w.drewN nq).drew.cell? ⟨hx, 0, none⟩ = some (.pointer (some ⟨hb, 0, none⟩)) ∧ (w.drewN nq).drew.cell? ⟨nx, 0, none⟩ = some (.int .i64 n) ∧ (w.drewN nq).drew.cell? ⟨hb, 12, none⟩ = some (.slice a sl cap) := ⟨c1, c2, d1⟩
  refine anyZ_marks (fuel := 4) (a' := ?a1) [true, true, true, true, true, true, false, false, false, false] rfl hS (fun _ _ d _ _ h => by cases d <;> exact h) (by kernel_rfl) (fun W hW => ?_) ?_
  rotate_left
  · obtain ⟨s0, s1, s2⟩ := hW
    simp only [pick]
    repeat (go_big_quiet_step (fail))
    refine wpQuiet_nil ?_
    show _ = _
    with_reducible rfl
  refine anyZ_step 6 rfl (by kernel_rfl) rfl (fun K hK => ?_)
  refine wp_zapp (n := n) (xs := s.slots) _ _ rfl rfl rfl rfl (HSl.out.of_heap rfl) (by rw [← Hl.out]; omega) ?_
  intro v' w1 ha0
  have ha : Appended ((w.drewN nq).drew) w1 (.slice a sl cap) v' s.slots (List.replicate n 0) := ha0
  clear ha0
  obtain ⟨a', c', rfl⟩ := ha.new.shape
  rw [List.length_append] at ha
  have hh : w1.heap[hb]? = w.heap[hb]? := ha.fr.block hb lh B.out.1
  have hhx : w1.heap[hx]? = w.heap[hx]? := ha.fr.block hx lx B.out.2.1
  have hhn : w1.heap[nx]? = w.heap[nx]? := ha.fr.block nx ln B.out.2.2
  have k1 := (cell_of_heap (a := ⟨hx, 0, none⟩) hhx).trans c1
  have k2 := (cell_of_heap (a := ⟨nx, 0, none⟩) hhn).trans c2
  have k3 := (cell_of_heap (a := ⟨hb, 12, none⟩) hh).trans d1
  have g1 := (frozen_of_heap (a := ⟨hb, 12, none⟩) hh).trans (F1.out _)
  have Ha := Lib.hid ha
  clear ha hh hhx hhn d1 c1 c2
  refine hK _ _ (.inr ⟨k1, k2, k3⟩) ?_
  clear hK K hS
  refine anyZ_step 7 rfl (by kernel_rfl) rfl (fun K hK => ?_)
  go_simp
  refine hK _ _ (.inr ⟨k1, k2, k3⟩) ?_
  clear hK K
  refine anyZ_step 8 rfl (by kernel_rfl) rfl (fun K hK => ?_)
  go_simp
  refine hK _ _ (.inr ⟨k1, k2, k3⟩) ?_
  clear hK K
  refine anyZ_step 9 rfl (by kernel_rfl) rfl (fun K hK => ?_)
  go_simp
  refine hK _ _ (.inl (by kernel_rfl)) ?_
  clear hK K
  refine anyZ_done (by kernel_rfl) ?_ _
  go_end0
  have hA := Ha.out
  have hrD : HRep ((w.drewN nq).drew) hb L s := HR.out.of_heap rfl
  have hfr : Fr (fun k => (L.v 3).ownBlock = some k) ((w.drewN nq).drew) w1 := by rw [hE.out]; exact hA.fr
  rw [← List.length_append] at hA
  have hown : (Value.slice a' (s.slots ++ List.replicate n 0).length c').ownBlock = (L.v 3).ownBlock ∨ (Value.slice a' (s.slots ++ List.replicate n 0).length c').ownBlock = none ∨ ∃ b, (Value.slice a' (s.slots ++ List.replicate n 0).length c').ownBlock = some b ∧ ((w.drewN nq).drew).heap.size ≤ b := by
    rcases hA.blk with h | h
    · left; rw [h, hE.out]
    · exact .inr (.inr h)
  have r3 := hrD.list (i := 3) (by omega) hA.new hfr hown
  have l3 : Left hb L (L.set 3 _) ((w.drewN nq).drew) _ := HRep.left_list (i := 3) (by omega) 12 hfr hown
  have l4 := l3.of_heap (w := w) rfl rfl rfl rfl
  rw [List.length_append, List.length_replicate] at r3 l4
  exact ⟨rfl, _, r3.of_heap rfl, l4⟩

theorem app_at {w0 w1 : World} {v v' : Value} {xs : List Int} {n : Nat} (h : Appended w0 w1 v v' xs (List.replicate n 0)) (hn : 0 < n) : ∃ b off c, v' = .slice (some ⟨b, off, none⟩) (xs.length + n) c ∧ xs.length + n ≤ c ∧
    w1.cell? ⟨b, off + xs.length, none⟩ = some (.int .i64 0) ∧ (∀ k, w1.frozen? ⟨b, k, none⟩ = false) ∧ b < w1.heap.size := by
  obtain ⟨b, off, c, e, h1, h2, _⟩ := h.new.get (i := xs.length) (by simp; omega)
  have hl : (xs ++ List.replicate n 0).length = xs.length + n := by simp
  rw [hl] at e h1
  refine ⟨b, off, c, e, h1, ?_, ?_, ?_⟩
  · have := h2 xs.length (by simp; omega)
    rw [this]
    congr 2
    rw [List.getD_eq_getElem?_getD, List.getElem?_append_right (by omega), Nat.sub_self, List.getElem?_replicate, if_pos hn]
    rfl
  · intro k
    rcases h.new with ⟨e', hz⟩ | ⟨b', off', cap', cs, e', hb', _⟩
    · rw [e] at e'; cases e'
    · rw [e] at e'
      simp only [Value.slice.injEq, Option.some.injEq, Addr.mk.injEq] at e'
      obtain ⟨⟨rfl, _⟩, _⟩ := e'
      simp [World.frozen?, hb']
  · have := h2 xs.length (by simp; omega)
    exact World.block_lt_of_cell? _ _ this

/-- What made leaves: the world w' out of w, in which its collections left the heap; the object in area a. -/
structure MadeIn (hb a tag refs raws : Nat) (L : Lay) (s : HS) (w w' : World) : Prop where
  ex : ∃ w0 w1 b off c, w0.heap = w.heap ∧ w0.os = w.os ∧ w0.tape = w.tape ∧ w0.output = w.output ∧ Appended w0 w1 (L.v a) (.slice (some ⟨b, off, none⟩) ((s.ar a).length + (1 + refs + raws)) c) (s.ar a) (List.replicate (1 + refs + raws) 0) ∧ b ≠ hb ∧
    Eqw ((w1.setCell ⟨hb, 8 + a, none⟩ (.slice (some ⟨b, off, none⟩) ((s.ar a).length + (1 + refs + raws)) c)).setCell ⟨b, off + (s.ar a).length, none⟩ (.int .i64 (hdr tag refs raws))) w'

set_option maxRecDepth 100000 in
set_option maxHeartbeats 2000000 in
theorem made_young {hb tag refs raws : Nat} {w : World} {L : Lay} {s : HS} (hr : HRep w hb L s) (ht : tag < 65536) (hrf : refs ≤ 4000) (hrw : raws ≤ 4000) (hz : (s.ar 2).length ≤ 100000000000) (hy : 1 + refs + raws ≤ s.young) (hfit : ((s.ar 2).length : Int) + (1 + refs + raws) ≤ s.young) :
    Calls Try.prog 52 #[.pointer (some ⟨hb, 0, none⟩), .int .i64 tag, .int .i64 refs, .int .i64 raws] w fun e w' => e = .returned (.int .i64 (enc 2 (s.ar 2).length)) ∧ MadeIn hb 2 tag refs raws L s w w' := by
  have HH := Lib.hid (fun W => header_any tag refs raws W ht hrf hrw)
  have Hsz := Lib.hid (show (1 : Int) + (refs : Int) + (raws : Int) = ((1 + refs + raws : Nat) : Int) by omega)
  have c7 := hr.c7
  obtain ⟨s1, hs1⟩ : ∃ s1, s1 = s := ⟨_, rfl⟩
  rw [← hs1] at hr hz hfit hy c7 ⊢
  have HI0 := hr.ar 2 (by omega)
  obtain ⟨na, ncap, hv⟩ := HI0.shape
  obtain ⟨ln, hln⟩ : ∃ ln, ln = (s1.ar 2).length := ⟨_, rfl⟩
  have k1 := hr.area (k := 2) (by omega)
  have hB := hr.off 2 (by omega)
  have lh := hr.lt (.inl rfl)
  have Hv := Lib.hid hv
  rw [hv] at HI0 k1 hB
  rw [← hln] at HI0 k1 hB
  have HI := Lib.hid HI0
  have B := Lib.hid hB
  have Hxl := Lib.hid hln
  have F1 := Lib.hid hr.froz
  have hln2 : ln ≤ 100000000000 := by rw [hln]; exact hz
  have H82 := Lib.hid (fun W => reference_any 2 ln W (by omega) (by omega))
  have Hlim := Lib.hid (show (s1.ar 2).length + (1 + refs + raws) ≤ 1000000000000 by omega)
  have hcap := HI0.caps rfl
  obtain ⟨hcap0, hcap1, hcap2⟩ := hcap
  clear HI0 hv hB hln hcap0
  rw [← Hxl.out] at hfit
  have kk : w.cell? ⟨hb, 10, none⟩ = some (.slice na ln ncap) := k1
  obtain ⟨yg, hyg⟩ : ∃ y, y = s1.young := ⟨_, rfl⟩
  rw [← hyg] at c7 hy hfit
  have t1 : ¬ (yg < 1 + (refs : Int) + (raws : Int)) := by omega
  have t2 : ¬ (yg < (ln : Int) + (1 + (refs : Int) + (raws : Int))) := by omega
  clear hr hs1 hz hyg hy hfit
  go_enter Try.func52, Try.ntmps52
  go_wp2
  go_quiet (fail)
  have kk2 : (w.drewN nq).cell? ⟨hb, 10, none⟩ = some (.slice na ln ncap) := kk
  go_wp2
  refine wp_region_z (fun W => W.cell? ⟨hb, 10, none⟩ = some (.slice na ln ncap)) 13 (by kernel_rfl) ?_
  have hS : (w.drewN nq).drew.cell? ⟨hb, 10, none⟩ = some (.slice na ln ncap) := k1
  refine anyZ_marks (fuel := 3) (a' := ?a1) [true, true, true, true, true, true, true, true, true, false, true, true, false, false] rfl hS (fun _ _ d _ _ h => by cases d <;> exact h) (by kernel_rfl) (fun W hW => ?_) ?_
  rotate_left
  · simp only [pick]
    repeat (go_big_quiet_step (fail))
    refine wpQuiet_nil ?_
    show _ = _
    with_reducible rfl
  refine anyZ_step 9 rfl (by kernel_rfl) rfl (fun K hK => ?_)
  refine wp_zapp (n := 1 + refs + raws) (xs := s1.ar 2) _ _ rfl rfl rfl Hsz.out (HI.out.of_heap rfl) Hlim.out ?_
  intro v' w2 ha0
  have ha : Appended ((w.drewN nq).drew) w2 (.slice na ln ncap) v' (s1.ar 2) (List.replicate (1 + refs + raws) 0) := ha0
  clear ha0
  obtain ⟨b, off, c', hv', hc', q1, q2, q3⟩ := app_at ha (by omega)
  rw [← Hxl.out] at hv' q1 hc'
  subst hv'
  have hbne : b ≠ hb := by
    rcases ha.blk with h | ⟨b', h, hle⟩
    · intro e; subst e; exact B.out h.symm
    · cases h; have := lh; simp at hle; omega
  have hh : w2.heap[hb]? = (w.drewN nq).heap[hb]? := ha.fr.block hb lh B.out
  have k2 := (cell_of_heap (a := ⟨hb, 10, none⟩) hh).trans k1
  have g1 := (frozen_of_heap (a := ⟨hb, 10, none⟩) hh).trans (F1.out _)
  have Ha := Lib.hid ha
  have q4 := q2 (off + ln)
  have Hq := Lib.hid q2
  clear ha hh k1 q2
  refine hK _ _ (.inr k2) ?_
  clear hK K hS
  refine anyZ_step 12 rfl (by kernel_rfl) rfl (fun K hK => ?_)
  go_simp
  refine hK _ _ (.inr k2) ?_
  clear hK K
  refine anyZ_step 13 rfl (by kernel_rfl) rfl (fun K hK => ?_)
  go_simp
  refine hK _ _ (.inl (by kernel_rfl)) ?_
  clear hK K
  refine anyZ_done (by kernel_rfl) ?_ _
  have x1 : (w2.setCell ⟨hb, 10, none⟩ (.slice (some ⟨b, off, none⟩) (ln + (1 + refs + raws)) c')).cell? ⟨hb, 10, none⟩ = some (.slice (some ⟨b, off, none⟩) (ln + (1 + refs + raws)) c') := World.cell?_setCell_same _ _ _ k2
  have x2 : (w2.setCell ⟨hb, 10, none⟩ (.slice (some ⟨b, off, none⟩) (ln + (1 + refs + raws)) c')).cell? ⟨b, off + ln, none⟩ = some (.int .i64 0) := (cell_of_heap (setCell_other _ hb _ _ hbne)).trans q1
  have x3 : (w2.setCell ⟨hb, 10, none⟩ (.slice (some ⟨b, off, none⟩) (ln + (1 + refs + raws)) c')).frozen? ⟨b, off + ln, none⟩ = false := (frozen_of_heap (setCell_other _ hb _ _ hbne)).trans q4
  have hlt9 : (ln : Int) < (ln : Int) + (1 + (refs : Int) + (raws : Int)) := by omega
  go_wp2
  refine wp_region_z (fun W => W.cell? ⟨hb, 10, none⟩ = some (.slice (some ⟨b, off, none⟩) (ln + (1 + refs + raws)) c')) 12 (by kernel_rfl) ?_
  have hS : (w2.setCell ⟨hb, 10, none⟩ (.slice (some ⟨b, off, none⟩) (ln + (1 + refs + raws)) c')).drew.cell? ⟨hb, 10, none⟩ = some (.slice (some ⟨b, off, none⟩) (ln + (1 + refs + raws)) c') := x1
  refine anyZ_marks (fuel := 3) (a' := ?a2) [true, true, true, true, true, true, true, true, true, true, false, false, false] rfl hS (fun _ _ d _ _ h => by cases d <;> exact h) (by kernel_rfl) (fun W hW => ?_) ?_
  rotate_left
  · simp only [pick]
    repeat (go_big_quiet_step (fail))
    refine wpQuiet_nil ?_
    show _ = _
    with_reducible rfl
  refine anyZ_step 10 rfl (by kernel_rfl) rfl (fun K hK => ?_)
  go_simp
  go_at_call 81
  refine (HH.out _).mono ?_
  rintro e w' ⟨rfl, rfl⟩
  refine hK _ _ (.inr hS) ?_
  clear hK K
  refine anyZ_step 11 rfl (by kernel_rfl) rfl (fun K hK => ?_)
  go_simp
  refine hK _ _ (.inr hS) ?_
  clear hK K
  refine anyZ_step 12 rfl (by kernel_rfl) rfl (fun K hK => ?_)
  go_simp
  refine hK _ _ (.inl (by kernel_rfl)) ?_
  clear hK K hS
  refine anyZ_done (by kernel_rfl) ?_ _
  go_wp2_with (go_at_call 82; refine (H82.out _).mono ?_; rintro e w' ⟨rfl, rfl⟩)
  go_ret
  refine ⟨by rw [← Hxl.out]; rfl, ⟨(w.drewN nq).drew, w2, b, off, c', rfl, rfl, rfl, rfl, ?_, hbne, ?_⟩⟩
  · rw [Hv.out, ← Hxl.out]; exact Ha.out
  · rw [← Hxl.out]; exact ⟨rfl, rfl, rfl, rfl⟩

set_option maxRecDepth 100000 in
set_option maxHeartbeats 2000000 in
theorem made_minor {hb tag refs raws : Nat} {w : World} {L : Lay} {s : HS} (hr : HRep w hb L s) (ht : tag < 65536) (hrf : refs ≤ 4000) (hrw : raws ≤ 4000) {N : Nat → World → Prop} {M : Lay → HS → World → Prop} (hz : (s.ar 2).length ≤ 100000000000) (hy : 1 + refs + raws ≤ s.young) (hfit : ¬ ((s.ar 2).length : Int) + (1 + refs + raws) ≤ s.young)
    (H62 : ∀ n, Calls Try.prog 62 #[.pointer (some ⟨hb, 0, none⟩)] (w.drewN n) fun e w' => ∃ c : Nat, e = .returned (.int .i64 c) ∧ N c w')
    (H61 : ∀ c w', N c w' → Calls Try.prog 61 #[.pointer (some ⟨hb, 0, none⟩), .int .i64 c] w' fun e w'' => e = .returned (.tuple #[]) ∧ ∃ L1 s1, M L1 s1 w'')
    (hM : ∀ L1 s1 W, M L1 s1 W → HRep W hb L1 s1 ∧ (s1.ar 2).length ≤ 100000000000) :
    Calls Try.prog 52 #[.pointer (some ⟨hb, 0, none⟩), .int .i64 tag, .int .i64 refs, .int .i64 raws] w fun e w' => ∃ L1 s1 w1, M L1 s1 w1 ∧ e = .returned (.int .i64 (enc 2 (s1.ar 2).length)) ∧ MadeIn hb 2 tag refs raws L1 s1 w1 w' := by
  have HH := Lib.hid (fun W => header_any tag refs raws W ht hrf hrw)
  have Hsz := Lib.hid (show (1 : Int) + (refs : Int) + (raws : Int) = ((1 + refs + raws : Nat) : Int) by omega)
  have c7 := hr.c7
  obtain ⟨na0, ncap0, hv0⟩ := (hr.ar 2 (by omega)).shape
  have kk := hr.area (k := 2) (by omega)
  rw [hv0] at kk
  obtain ⟨ln0, hln0⟩ : ∃ l, l = (s.ar 2).length := ⟨_, rfl⟩
  rw [← hln0] at kk hfit hz
  have kk0 : w.cell? ⟨hb, 10, none⟩ = some (.slice na0 ln0 ncap0) := kk
  obtain ⟨yg, hyg⟩ : ∃ y, y = s.young := ⟨_, rfl⟩
  rw [← hyg] at c7 hy hfit
  have t1 : ¬ (yg < 1 + (refs : Int) + (raws : Int)) := by omega
  have t2 : yg < (ln0 : Int) + (1 + (refs : Int) + (raws : Int)) := by omega
  have A62 := Lib.hid H62
  have A61 := Lib.hid H61
  have AM := Lib.hid hM
  clear hr hyg hy hfit hv0 hln0 kk H62 H61 hM
  go_enter Try.func52, Try.ntmps52
  go_wp2
  go_quiet (fail)
  have kk2 : (w.drewN nq).cell? ⟨hb, 10, none⟩ = some (.slice na0 ln0 ncap0) := kk0
  go_wp2_with (first | (go_at_call 62; refine (A62.out _).mono ?_; rintro e w3 ⟨c, rfl, hc⟩; have HN := Lib.hid hc; clear hc c7 kk0 kk2) | (go_at_call 61; refine (A61.out _ _ HN.out).mono ?_; rintro e w4 ⟨rfl, L1, s1, hm⟩; obtain ⟨hr4, hz4⟩ := AM.out _ _ _ hm; have HM := Lib.hid hm; have k10 := hr4.c10; obtain ⟨na, ncap, hv⟩ := (hr4.ar 2 (by omega)).shape; rw [hv] at k10; have HR4 := Lib.hid hr4; have HZ4 := Lib.hid hz4; have HV := Lib.hid hv; obtain ⟨ln, hln⟩ : ∃ ln, ln = (s1.ar 2).length := ⟨_, rfl⟩; rw [← hln] at k10; have HLN := Lib.hid hln; clear hm hr4 hz4 hv hln))
  have HI0 := HR4.out.ar 2 (by omega)
  have hv := HV.out
  have hln := HLN.out
  have k1 := HR4.out.area (k := 2) (by omega)
  have hB := HR4.out.off 2 (by omega)
  have lh := HR4.out.lt (.inl rfl)
  have Hv := Lib.hid hv
  rw [hv] at HI0 k1 hB
  rw [← hln] at HI0 k1 hB
  have HI := Lib.hid HI0
  have B := Lib.hid hB
  have Hxl := Lib.hid hln
  have F1 := Lib.hid HR4.out.froz
  have hln2 : ln ≤ 100000000000 := by rw [hln]; exact HZ4.out
  have H82 := Lib.hid (fun W => reference_any 2 ln W (by omega) (by omega))
  have Hlim := Lib.hid (show (s1.ar 2).length + (1 + refs + raws) ≤ 1000000000000 by omega)
  have hcap := HI0.caps rfl
  obtain ⟨hcap0, hcap1, hcap2⟩ := hcap
  clear HI0 hv hB hln hcap0
  have kk : w4.cell? ⟨hb, 10, none⟩ = some (.slice na ln ncap) := k10
  refine wp_region_z (fun W => W.cell? ⟨hb, 10, none⟩ = some (.slice na ln ncap)) 13 (by kernel_rfl) ?_
  have hS : (w4).drew.cell? ⟨hb, 10, none⟩ = some (.slice na ln ncap) := k1
  refine anyZ_marks (fuel := 3) (a' := ?a1) [true, true, true, true, true, true, true, true, true, false, true, true, false, false] rfl hS (fun _ _ d _ _ h => by cases d <;> exact h) (by kernel_rfl) (fun W hW => ?_) ?_
  rotate_left
  · simp only [pick]
    repeat (go_big_quiet_step (fail))
    refine wpQuiet_nil ?_
    show _ = _
    with_reducible rfl
  refine anyZ_step 9 rfl (by kernel_rfl) rfl (fun K hK => ?_)
  refine wp_zapp (n := 1 + refs + raws) (xs := s1.ar 2) _ _ rfl rfl rfl Hsz.out (HI.out.of_heap rfl) Hlim.out ?_
  intro v' w2 ha0
  have ha : Appended ((w4).drew) w2 (.slice na ln ncap) v' (s1.ar 2) (List.replicate (1 + refs + raws) 0) := ha0
  clear ha0
  obtain ⟨b, off, c', hv', hc', q1, q2, q3⟩ := app_at ha (by omega)
  rw [← Hxl.out] at hv' q1 hc'
  subst hv'
  have hbne : b ≠ hb := by
    rcases ha.blk with h | ⟨b', h, hle⟩
    · intro e; subst e; exact B.out h.symm
    · cases h; have := lh; simp at hle; omega
  have hh : w2.heap[hb]? = (w4).heap[hb]? := ha.fr.block hb lh B.out
  have k2 := (cell_of_heap (a := ⟨hb, 10, none⟩) hh).trans k1
  have g1 := (frozen_of_heap (a := ⟨hb, 10, none⟩) hh).trans (F1.out _)
  have Ha := Lib.hid ha
  have q4 := q2 (off + ln)
  have Hq := Lib.hid q2
  clear ha hh k1 q2
  refine hK _ _ (.inr k2) ?_
  clear hK K hS
  refine anyZ_step 12 rfl (by kernel_rfl) rfl (fun K hK => ?_)
  go_simp
  refine hK _ _ (.inr k2) ?_
  clear hK K
  refine anyZ_step 13 rfl (by kernel_rfl) rfl (fun K hK => ?_)
  go_simp
  refine hK _ _ (.inl (by kernel_rfl)) ?_
  clear hK K
  refine anyZ_done (by kernel_rfl) ?_ _
  have x1 : (w2.setCell ⟨hb, 10, none⟩ (.slice (some ⟨b, off, none⟩) (ln + (1 + refs + raws)) c')).cell? ⟨hb, 10, none⟩ = some (.slice (some ⟨b, off, none⟩) (ln + (1 + refs + raws)) c') := World.cell?_setCell_same _ _ _ k2
  have x2 : (w2.setCell ⟨hb, 10, none⟩ (.slice (some ⟨b, off, none⟩) (ln + (1 + refs + raws)) c')).cell? ⟨b, off + ln, none⟩ = some (.int .i64 0) := (cell_of_heap (setCell_other _ hb _ _ hbne)).trans q1
  have x3 : (w2.setCell ⟨hb, 10, none⟩ (.slice (some ⟨b, off, none⟩) (ln + (1 + refs + raws)) c')).frozen? ⟨b, off + ln, none⟩ = false := (frozen_of_heap (setCell_other _ hb _ _ hbne)).trans q4
  have hlt9 : (ln : Int) < (ln : Int) + (1 + (refs : Int) + (raws : Int)) := by omega
  go_wp2
  refine wp_region_z (fun W => W.cell? ⟨hb, 10, none⟩ = some (.slice (some ⟨b, off, none⟩) (ln + (1 + refs + raws)) c')) 12 (by kernel_rfl) ?_
  have hS : (w2.setCell ⟨hb, 10, none⟩ (.slice (some ⟨b, off, none⟩) (ln + (1 + refs + raws)) c')).drew.cell? ⟨hb, 10, none⟩ = some (.slice (some ⟨b, off, none⟩) (ln + (1 + refs + raws)) c') := x1
  refine anyZ_marks (fuel := 3) (a' := ?a2) [true, true, true, true, true, true, true, true, true, true, false, false, false] rfl hS (fun _ _ d _ _ h => by cases d <;> exact h) (by kernel_rfl) (fun W hW => ?_) ?_
  rotate_left
  · simp only [pick]
    repeat (go_big_quiet_step (fail))
    refine wpQuiet_nil ?_
    show _ = _
    with_reducible rfl
  refine anyZ_step 10 rfl (by kernel_rfl) rfl (fun K hK => ?_)
  go_simp
  go_at_call 81
  refine (HH.out _).mono ?_
  rintro e w' ⟨rfl, rfl⟩
  refine hK _ _ (.inr hS) ?_
  clear hK K
  refine anyZ_step 11 rfl (by kernel_rfl) rfl (fun K hK => ?_)
  go_simp
  refine hK _ _ (.inr hS) ?_
  clear hK K
  refine anyZ_step 12 rfl (by kernel_rfl) rfl (fun K hK => ?_)
  go_simp
  refine hK _ _ (.inl (by kernel_rfl)) ?_
  clear hK K hS
  refine anyZ_done (by kernel_rfl) ?_ _
  go_wp2_with (go_at_call 82; refine (H82.out _).mono ?_; rintro e w' ⟨rfl, rfl⟩)
  go_ret
  refine ⟨L1, s1, w4, HM.out, by rw [← Hxl.out]; rfl, ⟨(w4).drew, w2, b, off, c', rfl, rfl, rfl, rfl, ?_, hbne, ?_⟩⟩
  · rw [Hv.out, ← Hxl.out]; exact Ha.out
  · rw [← Hxl.out]; exact ⟨rfl, rfl, rfl, rfl⟩

set_option maxRecDepth 100000 in
set_option maxHeartbeats 2000000 in
theorem made_old {hb tag refs raws : Nat} {w : World} {L : Lay} {s : HS} (hr : HRep w hb L s) (ht : tag < 65536) (hrf : refs ≤ 4000) (hrw : raws ≤ 4000) {M : Lay → HS → World → Prop} (hnow : s.now < 2) (hy : ¬ 1 + refs + raws ≤ s.young)
    (H61 : Calls Try.prog 61 #[.pointer (some ⟨hb, 0, none⟩), .int .i64 ((1 + refs + raws : Nat) : Int)] w fun e w'' => e = .returned (.tuple #[]) ∧ ∃ L1 s1, M L1 s1 w'')
    (hM : ∀ L1 s1 W, M L1 s1 W → HRep W hb L1 s1 ∧ s1.now < 2 ∧ (s1.ar s1.now).length ≤ 100000000000) :
    Calls Try.prog 52 #[.pointer (some ⟨hb, 0, none⟩), .int .i64 tag, .int .i64 refs, .int .i64 raws] w fun e w' => ∃ L1 s1 w1, M L1 s1 w1 ∧ e = .returned (.int .i64 (enc s1.now (s1.ar s1.now).length)) ∧ MadeIn hb s1.now tag refs raws L1 s1 w1 w' := by
  have HH := Lib.hid (fun W => header_any tag refs raws W ht hrf hrw)
  have Hsz := Lib.hid (show (1 : Int) + (refs : Int) + (raws : Int) = ((1 + refs + raws : Nat) : Int) by omega)
  have c7 := hr.c7
  have c11 := hr.c11
  obtain ⟨yg, hyg⟩ : ∃ y, y = s.young := ⟨_, rfl⟩
  rw [← hyg] at c7 hy
  obtain ⟨nw0, hnw0⟩ : ∃ n, n = s.now := ⟨_, rfl⟩
  rw [← hnw0] at c11 hnow
  have t1 : yg < 1 + (refs : Int) + (raws : Int) := by omega
  have t3 : ¬ ((nw0 : Int) = 2) := by omega
  have A61 := Lib.hid H61
  have AM := Lib.hid hM
  rw [← Hsz.out] at A61
  clear hr hyg hy H61 hM hnw0
  go_enter Try.func52, Try.ntmps52
  go_wp2_with (first | (go_at_call 61; refine (A61.out).mono ?_; rintro e w4 ⟨rfl, L1, s1, hm⟩; obtain ⟨hr4, hn4, hz4⟩ := AM.out _ _ _ hm; have HM := Lib.hid hm; have k11 := hr4.c11; obtain ⟨na, ncap, hv⟩ := (hr4.ar s1.now (by omega)).shape; have k10 := hr4.area (k := s1.now) (by omega); rw [hv] at k10; obtain ⟨ln, hln⟩ : ∃ ln, ln = (s1.ar s1.now).length := ⟨_, rfl⟩; rw [← hln] at k10; have HR4 := Lib.hid hr4; have HZ4 := Lib.hid hz4; have HV := Lib.hid hv; have HLN := Lib.hid hln; obtain ⟨nw, hnw⟩ : ∃ n, n = s1.now := ⟨_, rfl⟩; rw [← hnw] at k10 k11 hn4 HZ4 HV HLN; have HNW := Lib.hid hnw; have m1 : (0 : Int) ≤ (nw : Int) := (by omega); have m2 : (nw : Int) < 3 := (by omega); clear hm hr4 hz4 hv hln hnw c7 c11))
  have HI0 := HR4.out.ar nw (by omega)
  have hv := HV.out
  have hln := HLN.out
  have k1 := HR4.out.area (k := nw) (by omega)
  have hB := HR4.out.off nw (by omega)
  have lh := HR4.out.lt (.inl rfl)
  have Hv := Lib.hid hv
  rw [hv] at HI0 k1 hB
  rw [← hln] at HI0 k1 hB
  have HI := Lib.hid HI0
  have B := Lib.hid hB
  have Hxl := Lib.hid hln
  have F1 := Lib.hid HR4.out.froz
  have hln2 : ln ≤ 100000000000 := by rw [hln]; exact HZ4.out
  have H82 := Lib.hid (fun W => reference_any nw ln W (by omega) (by omega))
  have Hlim := Lib.hid (show (s1.ar nw).length + (1 + refs + raws) ≤ 1000000000000 by omega)
  have hcap := HI0.caps rfl
  obtain ⟨hcap0, hcap1, hcap2⟩ := hcap
  clear HI0 hv hB hln hcap0
  refine wp_region_z (fun W => W.cell? ⟨hb, 8 + nw, none⟩ = some (.slice na ln ncap)) 13 (by kernel_rfl) ?_
  have hS : (w4).drew.cell? ⟨hb, 8 + nw, none⟩ = some (.slice na ln ncap) := k1
  refine anyZ_marks (fuel := 3) (a' := ?a1) [true, true, true, true, true, true, true, true, true, false, true, true, false, false] rfl hS (fun _ _ d _ _ h => by cases d <;> exact h) (by kernel_rfl) (fun W hW => ?_) ?_
  rotate_left
  · simp only [pick]
    repeat (go_big_quiet_step (fail))
    refine wpQuiet_nil ?_
    show _ = _
    with_reducible rfl
  refine anyZ_step 9 rfl (by kernel_rfl) rfl (fun K hK => ?_)
  refine wp_zapp (n := 1 + refs + raws) (xs := s1.ar nw) _ _ rfl rfl rfl Hsz.out (HI.out.of_heap rfl) Hlim.out ?_
  intro v' w2 ha0
  have ha : Appended ((w4).drew) w2 (.slice na ln ncap) v' (s1.ar nw) (List.replicate (1 + refs + raws) 0) := ha0
  clear ha0
  obtain ⟨b, off, c', hv', hc', q1, q2, q3⟩ := app_at ha (by omega)
  rw [← Hxl.out] at hv' q1 hc'
  subst hv'
  have hbne : b ≠ hb := by
    rcases ha.blk with h | ⟨b', h, hle⟩
    · intro e; subst e; exact B.out h.symm
    · cases h; have := lh; simp at hle; omega
  have hh : w2.heap[hb]? = (w4).heap[hb]? := ha.fr.block hb lh B.out
  have k2 := (cell_of_heap (a := ⟨hb, 8 + nw, none⟩) hh).trans k1
  have g1 := (frozen_of_heap (a := ⟨hb, 8 + nw, none⟩) hh).trans (F1.out _)
  have Ha := Lib.hid ha
  have q4 := q2 (off + ln)
  have Hq := Lib.hid q2
  clear ha hh k1 q2
  refine hK _ _ (.inr k2) ?_
  clear hK K hS
  refine anyZ_step 12 rfl (by kernel_rfl) rfl (fun K hK => ?_)
  go_simp
  refine hK _ _ (.inr k2) ?_
  clear hK K
  refine anyZ_step 13 rfl (by kernel_rfl) rfl (fun K hK => ?_)
  go_simp
  refine hK _ _ (.inl (by kernel_rfl)) ?_
  clear hK K
  refine anyZ_done (by kernel_rfl) ?_ _
  have x1 : (w2.setCell ⟨hb, 8 + nw, none⟩ (.slice (some ⟨b, off, none⟩) (ln + (1 + refs + raws)) c')).cell? ⟨hb, 8 + nw, none⟩ = some (.slice (some ⟨b, off, none⟩) (ln + (1 + refs + raws)) c') := World.cell?_setCell_same _ _ _ k2
  have x2 : (w2.setCell ⟨hb, 8 + nw, none⟩ (.slice (some ⟨b, off, none⟩) (ln + (1 + refs + raws)) c')).cell? ⟨b, off + ln, none⟩ = some (.int .i64 0) := (cell_of_heap (setCell_other _ hb _ _ hbne)).trans q1
  have x3 : (w2.setCell ⟨hb, 8 + nw, none⟩ (.slice (some ⟨b, off, none⟩) (ln + (1 + refs + raws)) c')).frozen? ⟨b, off + ln, none⟩ = false := (frozen_of_heap (setCell_other _ hb _ _ hbne)).trans q4
  have hlt9 : (ln : Int) < (ln : Int) + (1 + (refs : Int) + (raws : Int)) := by omega
  go_wp2
  refine wp_region_z (fun W => W.cell? ⟨hb, 8 + nw, none⟩ = some (.slice (some ⟨b, off, none⟩) (ln + (1 + refs + raws)) c')) 12 (by kernel_rfl) ?_
  have hS : (w2.setCell ⟨hb, 8 + nw, none⟩ (.slice (some ⟨b, off, none⟩) (ln + (1 + refs + raws)) c')).drew.cell? ⟨hb, 8 + nw, none⟩ = some (.slice (some ⟨b, off, none⟩) (ln + (1 + refs + raws)) c') := x1
  refine anyZ_marks (fuel := 3) (a' := ?a2) [true, true, true, true, true, true, true, true, true, true, false, false, false] rfl hS (fun _ _ d _ _ h => by cases d <;> exact h) (by kernel_rfl) (fun W hW => ?_) ?_
  rotate_left
  · simp only [pick]
    repeat (go_big_quiet_step (fail))
    refine wpQuiet_nil ?_
    show _ = _
    with_reducible rfl
  refine anyZ_step 10 rfl (by kernel_rfl) rfl (fun K hK => ?_)
  go_simp
  go_at_call 81
  refine (HH.out _).mono ?_
  rintro e w' ⟨rfl, rfl⟩
  refine hK _ _ (.inr hS) ?_
  clear hK K
  refine anyZ_step 11 rfl (by kernel_rfl) rfl (fun K hK => ?_)
  go_simp
  refine hK _ _ (.inr hS) ?_
  clear hK K
  refine anyZ_step 12 rfl (by kernel_rfl) rfl (fun K hK => ?_)
  go_simp
  refine hK _ _ (.inl (by kernel_rfl)) ?_
  clear hK K hS
  refine anyZ_done (by kernel_rfl) ?_ _
  go_wp2_with (go_at_call 82; refine (H82.out _).mono ?_; rintro e w' ⟨rfl, rfl⟩)
  go_ret
  refine ⟨L1, s1, w4, HM.out, ?_⟩
  rw [← HNW.out]
  refine ⟨by rw [← Hxl.out]; rfl, ⟨(w4).drew, w2, b, off, c', rfl, rfl, rfl, rfl, ?_, hbne, ?_⟩⟩
  · rw [Hv.out, ← Hxl.out]; exact Ha.out
  · rw [← Hxl.out]; exact ⟨rfl, rfl, rfl, rfl⟩

end Go.Proofs.Ythjokcjdphempaa
