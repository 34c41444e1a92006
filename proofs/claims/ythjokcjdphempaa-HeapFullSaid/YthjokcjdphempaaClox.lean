/- The closures of Copy, Empty, Shape, Shrink, and the failing ways of Store and Grow. -/
import Derived.Test.YthjokcjdphempaaFails
import Derived.StillTailTactics
import Derived.Deep.RegionHeld3
import Derived.Test.YthjokcjdphempaaGrow
import Derived.Lib.SliceRun
import Derived.IntWalk
namespace Go.Proofs.Ythjokcjdphempaa
open Go.RowKit Hp Go.Shelf

set_option maxRecDepth 100000 in
set_option maxHeartbeats 1000000 in
theorem copy_yes {hb hx tx fx : Nat} {i j n : Nat} {w : World} {L : Lay} {s : HS} (hr : HRep w hb L s) (c1 : w.cell? ⟨hx, 0, none⟩ = some (.pointer (some ⟨hb, 0, none⟩))) (hsl : s.slots.length ≤ 1000000) (c_tx : w.cell? ⟨tx, 0, none⟩ = some (.int .i64 i)) (c_fx : w.cell? ⟨fx, 0, none⟩ = some (.int .i64 j))
    {A : AHeap} {G : Areas} {φ : Nat → Int} (hi : InvG s G φ A) (hil : i < s.slots.length) (hj : A.slots[j]? = some n) :
    Calls Try.prog 73 #[.pointer (some ⟨hx, 0, none⟩), .pointer (some ⟨tx, 0, none⟩), .pointer (some ⟨fx, 0, none⟩)] w fun e w' => e = .returned (.tuple #[]) ∧ ∃ y, RefOk G φ s.now y n ∧ HRep w' hb L { s with slots := s.slots.set i y } ∧ Left hb L L w w' := by
  have hjl : j < s.slots.length := by rw [hi.rep.slen]; exact (List.getElem?_eq_some_iff.1 hj).1
  have HT := Lib.hid (there2 hr i j hsl (in_slots2.2 ⟨⟨by omega, by omega⟩, by omega, by omega⟩))
  have hrA := hr.of_fr (fr_alloc1 w (.cells #[.int .i64 i, .int .i64 j] 3)) (fun _ _ h => h)
  obtain ⟨sb, off, cap, d1, d2, d3, d4, d5⟩ := hrA.slot hjl
  obtain ⟨sb', off', cap', d1', d2', d3', d4', d5'⟩ := hrA.slot hil
  rw [d1] at d1'
  cases d1'
  have hyx : s.slots[j]? = some (s.slots.getD j 0) := by rw [List.getD_eq_getElem?_getD, List.getElem?_eq_getElem hjl]; rfl
  have y2 := (hi.rep.slot j _ n hyx hj).1
  obtain ⟨y, hy⟩ : ∃ y, y = s.slots.getD j 0 := ⟨_, rfl⟩
  rw [← hy] at d3 y2
  obtain ⟨x, hx'⟩ : ∃ x, x = s.slots.getD i 0 := ⟨_, rfl⟩
  rw [← hx'] at d3'
  have hput := hrA.put (i := 3) (by omega) d4 (p := i) hil y
  have hleft : Left hb L L w ((w.alloc (.cells #[.int .i64 i, .int .i64 j] 3)).setCell ⟨sb, off + i, none⟩ (.int .i64 y)) :=
    Left.trans ⟨(fr_alloc1 w (.cells #[.int .i64 i, .int .i64 j] 3)).mono fun _ h => h.elim, fun _ h => .inl h⟩ (left_setCell _ hb L (ownBlock_foot (i := 3) (by omega) (by rw [d4]; rfl)) (off + i) _)
  have HP := Lib.hid (And.intro y2 (And.intro hput hleft))
  have e1 := alloc_cell c1 (.cells #[.int .i64 i, .int .i64 j] 3)
  have e2 := alloc_cell c_tx (.cells #[.int .i64 i, .int .i64 j] 3)
  have e3 := alloc_cell c_fx (.cells #[.int .i64 i, .int .i64 j] 3)
  obtain ⟨sl, hsl'⟩ : ∃ sl, sl = s.slots.length := ⟨_, rfl⟩
  rw [← hsl'] at d1 d2 hil hjl hsl
  clear hr hi hrA hput hleft y2 hy hx' hyx hj hsl' d4 d4' d5 d2'
  go_enter Try.func73, Try.ntmps73
  go_wp2_with (go_at_call 50; refine HT.out.mono ?_; rintro e w' ⟨rfl, rfl⟩)
  go_region
  all_goals
    go_end0
    exact ⟨rfl, y, HP.out.1, HP.out.2.1.of_heap rfl, HP.out.2.2.drew⟩

set_option maxRecDepth 100000 in
set_option maxHeartbeats 1000000 in
theorem empty_yes {hb hx ox rx : Nat} {i : Nat} {r0 : Value} {rt : TypeId} {w : World} {L : Lay} {s : HS} (hr : HRep w hb L s) (c1 : w.cell? ⟨hx, 0, none⟩ = some (.pointer (some ⟨hb, 0, none⟩))) (hsl : s.slots.length ≤ 1000000) (c_ox : w.cell? ⟨ox, 0, none⟩ = some (.int .i64 i))
    (hil : i < s.slots.length) (hrx : w.heap[rx]? = some (.cells #[r0] rt (0, 0))) :
    Calls Try.prog 75 #[.pointer (some ⟨hx, 0, none⟩), .pointer (some ⟨ox, 0, none⟩), .pointer (some ⟨rx, 0, none⟩)] w fun e w' => e = .returned (.tuple #[]) ∧ ∃ bv, Eqw ((w.alloc (.cells #[.int .i64 i] 3)).setCell ⟨rx, 0, none⟩ (.bool bv)) w' := by
  have HT := Lib.hid (there1 hr i hsl (in_slots1.2 ⟨by omega, by omega⟩))
  have hrA := hr.of_fr (fr_alloc1 w (.cells #[.int .i64 i] 3)) (fun _ _ h => h)
  obtain ⟨sb, off, cap, d1, d2, d3, d4, d5⟩ := hrA.slot hil
  obtain ⟨x, hx'⟩ : ∃ x, x = s.slots.getD i 0 := ⟨_, rfl⟩
  rw [← hx'] at d3
  have e1 := alloc_cell c1 (.cells #[.int .i64 i] 3)
  have e2 := alloc_cell c_ox (.cells #[.int .i64 i] 3)
  have r1 := alloc_cell (cell_of_box hrx).1 (.cells #[.int .i64 i] 3)
  have r2 := alloc_frozen (cell_of_box hrx).1 (cell_of_box hrx).2 (.cells #[.int .i64 i] 3)
  obtain ⟨sl, hsl'⟩ : ∃ sl, sl = s.slots.length := ⟨_, rfl⟩
  rw [← hsl'] at d1 d2 hil hsl
  clear hr hrA hx' hsl' d4 d5 hrx
  go_enter Try.func75, Try.ntmps75
  go_wp2_with (go_at_call 50; refine HT.out.mono ?_; rintro e w' ⟨rfl, rfl⟩)
  go_region
  all_goals
    go_end0
    exact ⟨rfl, _, rfl, rfl, rfl, rfl⟩
end Go.Proofs.Ythjokcjdphempaa

namespace Go.Proofs.Ythjokcjdphempaa
open Go.RowKit Hp Go.Shelf

theorem three_boxes {w0 w : World} {u v y : Nat} {u0 v0 y0 x1 x2 x3 : Value} {t : TypeId} (h1 : w.heap[u]? = some (.cells #[u0] t (0, 0))) (h2 : w.heap[v]? = some (.cells #[v0] t (0, 0))) (h3 : w.heap[y]? = some (.cells #[y0] t (0, 0))) (hf : Fr (fun _ => False) w0 w) (huv : u ≠ v) (huy : u ≠ y) (hvy : v ≠ y) :
    let w' := (((w.setCell ⟨u, 0, none⟩ x1).setCell ⟨v, 0, none⟩ x2).setCell ⟨y, 0, none⟩ x3).drew
    w'.heap[u]? = some (.cells #[x1] t (0, 0)) ∧ w'.heap[v]? = some (.cells #[x2] t (0, 0)) ∧ w'.heap[y]? = some (.cells #[x3] t (0, 0)) ∧ Fr (fun k => k = u ∨ k = v ∨ k = y) w0 w' := by
  have hs : ∀ (W : World) (k : Nat) (a0 x : Value), W.heap[k]? = some (.cells #[a0] t (0, 0)) → (W.setCell ⟨k, 0, none⟩ x).heap[k]? = some (.cells #[x] t (0, 0)) := fun W k a0 x h => by rw [setCell_block W k 0 x h]; rfl
  have ho : ∀ (W : World) (k j : Nat) (x : Value), j ≠ k → (W.setCell ⟨k, 0, none⟩ x).heap[j]? = W.heap[j]? := fun W k j x h => setCell_other W k 0 x h
  have F : ∀ (W : World) (k : Nat) (x : Value), (k = u ∨ k = v ∨ k = y) → Fr (fun k => k = u ∨ k = v ∨ k = y) w0 W → Fr (fun k => k = u ∨ k = v ∨ k = y) w0 (W.setCell ⟨k, 0, none⟩ x) := fun W k x hk h =>
    h.trans (fr_setCell W k 0 x) fun j hj => .inl (hj ▸ hk)
  have f0 : Fr (fun k => k = u ∨ k = v ∨ k = y) w0 w := hf.mono fun _ h => h.elim
  have f3 := F _ y x3 (by simp) (F _ v x2 (by simp) (F w u x1 (by simp) f0))
  refine ⟨?_, ?_, ?_, ⟨f3.os, f3.tape, f3.output, f3.size, f3.block⟩⟩
  · show (((w.setCell ⟨u, 0, none⟩ x1).setCell ⟨v, 0, none⟩ x2).setCell ⟨y, 0, none⟩ x3).heap[u]? = _
    rw [ho _ _ _ _ huy, ho _ _ _ _ huv]; exact hs _ _ _ _ h1
  · show (((w.setCell ⟨u, 0, none⟩ x1).setCell ⟨v, 0, none⟩ x2).setCell ⟨y, 0, none⟩ x3).heap[v]? = _
    rw [ho _ _ _ _ hvy]; exact hs _ _ _ _ ((ho _ _ _ _ huv.symm).trans h2)
  · exact hs _ _ _ _ ((ho _ _ _ _ hvy.symm).trans ((ho _ _ _ _ huy.symm).trans h3))

set_option maxRecDepth 100000 in
set_option maxHeartbeats 1000000 in
theorem shape_yes {hb hx ox ux vx yx : Nat} {i m : Nat} {w : World} {L : Lay} {s : HS} (hr : HRep w hb L s) (c1 : w.cell? ⟨hx, 0, none⟩ = some (.pointer (some ⟨hb, 0, none⟩))) (hsl : s.slots.length ≤ 1000000) (c_ox : w.cell? ⟨ox, 0, none⟩ = some (.int .i64 i))
    {A : AHeap} {G : Areas} {φ : Nat → Int} (hi : InvG s G φ A) (hz : Sized s A) (h0 : A.slots[i]? = some (m + 1)) {u0 v0 y0 : Value} (hux : w.heap[ux]? = some (.cells #[u0] 3 (0, 0))) (hvx : w.heap[vx]? = some (.cells #[v0] 3 (0, 0))) (hyx : w.heap[yx]? = some (.cells #[y0] 3 (0, 0)))
    (nu : ¬ L.foot hb ux) (nv : ¬ L.foot hb vx) (ny : ¬ L.foot hb yx) (huv : ux ≠ vx) (huy : ux ≠ yx) (hvy : vx ≠ yx) :
    Calls Try.prog 54 #[.pointer (some ⟨hx, 0, none⟩), .pointer (some ⟨ox, 0, none⟩), .pointer (some ⟨ux, 0, none⟩), .pointer (some ⟨vx, 0, none⟩), .pointer (some ⟨yx, 0, none⟩)] w fun e w' => e = .returned (.tuple #[]) ∧
      w'.heap[ux]? = some (.cells #[.int .i64 (A.obj m).tag] 3 (0, 0)) ∧ w'.heap[vx]? = some (.cells #[.int .i64 (A.obj m).refs.length] 3 (0, 0)) ∧ w'.heap[yx]? = some (.cells #[.int .i64 (A.obj m).raws.length] 3 (0, 0)) ∧ Fr (fun k => k = ux ∨ k = vx ∨ k = yx) w w' := by
  have hlt : i < s.slots.length := by rw [hi.rep.slen]; exact (List.getElem?_eq_some_iff.1 h0).1
  have HT := Lib.hid (there1 hr i hsl (in_slots1.2 ⟨by omega, by omega⟩))
  have hrA := hr.of_fr (fr_alloc1 w (.cells #[.int .i64 i] 3)) (fun _ _ h => h)
  obtain ⟨b, p, ho⟩ := slot_some hrA hi hz h0
  obtain ⟨x, hx1, x2, x3, x4, x5, x6⟩ := ho.hdr
  have e0 := ho.head
  rw [← hx1] at e0
  have HO := Lib.hid ho.call
  have H46 := fun W => refsOf_any x W x2 x3
  have H56 := fun W => rawsOf_any x W x2 x3
  have H47 := fun W => tagOf_any x W x2 x3
  obtain ⟨sz, hsz⟩ : ∃ sz, sz = (A.obj m).size := ⟨_, rfl⟩
  have hsz0 : sz = 1 + (A.obj m).refs.length + (A.obj m).raws.length := by rw [hsz]; rfl
  rw [x4] at H46
  rw [x5] at H56
  rw [x6] at H47
  rw [← hsz] at HO
  have H46 := Lib.hid H46
  have H56 := Lib.hid H56
  have H47 := Lib.hid H47
  have hszp : 0 < sz := by omega
  have hbf : L.foot hb b := by
    obtain ⟨o2, n2, cap2, L2, p2⟩ := ho.own
    exact .inr ⟨aOf (φ m), by have := ho.area; omega, by rw [L2]; rfl⟩
  have n1 : b ≠ ux := fun e => nu (e ▸ hbf)
  have n2 : b ≠ vx := fun e => nv (e ▸ hbf)
  have n3 : b ≠ yx := fun e => ny (e ▸ hbf)
  have e1 := alloc_cell c1 (.cells #[.int .i64 i] 3)
  have e2 := alloc_cell c_ox (.cells #[.int .i64 i] 3)
  have fa := fr_alloc1 w (.cells #[.int .i64 i] 3)
  have g1 : (w.alloc (.cells #[.int .i64 i] 3)).heap[ux]? = some (.cells #[u0] 3 (0, 0)) := by rw [fa.block _ (Array.getElem?_eq_some_iff.1 hux).1 id]; exact hux
  have g2 : (w.alloc (.cells #[.int .i64 i] 3)).heap[vx]? = some (.cells #[v0] 3 (0, 0)) := by rw [fa.block _ (Array.getElem?_eq_some_iff.1 hvx).1 id]; exact hvx
  have g3 : (w.alloc (.cells #[.int .i64 i] 3)).heap[yx]? = some (.cells #[y0] 3 (0, 0)) := by rw [fa.block _ (Array.getElem?_eq_some_iff.1 hyx).1 id]; exact hyx
  have HG := Lib.hid (And.intro g1 (And.intro g2 (And.intro g3 fa)))
  obtain ⟨tg, htg⟩ : ∃ tg, tg = (A.obj m).tag := ⟨_, rfl⟩
  obtain ⟨nr, hnr⟩ : ∃ nr, nr = (A.obj m).refs.length := ⟨_, rfl⟩
  obtain ⟨nw, hnw⟩ : ∃ nw, nw = (A.obj m).raws.length := ⟨_, rfl⟩
  rw [← htg, ← hnr, ← hnw]
  rw [← htg] at H47
  rw [← hnr] at H46
  rw [← hnw] at H56
  clear hr hi hz ho hrA h0 hux hvx hyx nu nv ny hsz hsz0 hx1 x4 x5 x6 htg hnr hnw g1 g2 g3 fa hbf
  have q1 := (cell_of_box HG.out.1).1
  have q2 := (cell_of_box HG.out.2.1).1
  have q3 := (cell_of_box HG.out.2.2.1).1
  have z1 := (cell_of_box HG.out.1).2
  have z2 := (cell_of_box HG.out.2.1).2
  have z3 := (cell_of_box HG.out.2.2.1).2
  have m1 := n1.symm
  have m2 := n2.symm
  have m3 := n3.symm
  have huv' := huv.symm
  have huy' := huy.symm
  have hvy' := hvy.symm
  go_enter Try.func54, Try.ntmps54
  go_wp2_with (first | (go_at_call 50; refine HT.out.mono ?_; rintro e w' ⟨rfl, rfl⟩) | (go_at_call 55; refine (HO.out _ rfl).mono ?_; rintro e w' ⟨rfl, rfl⟩))
  go_region_held3 (fun W => W.cell? ⟨b, p, none⟩ = some (.int .i64 x)) (go_keep) (first | (go_at_call 47; refine (H47.out _).mono ?_; rintro e w' ⟨rfl, rfl⟩) | (go_at_call 46; refine (H46.out _).mono ?_; rintro e w' ⟨rfl, rfl⟩) | (go_at_call 56; refine (H56.out _).mono ?_; rintro e w' ⟨rfl, rfl⟩))
  go_end0
  exact ⟨rfl, three_boxes HG.out.1 HG.out.2.1 HG.out.2.2.1 HG.out.2.2.2 huv huy hvy⟩
end Go.Proofs.Ythjokcjdphempaa

namespace Go.Proofs.Ythjokcjdphempaa
open Go.RowKit Hp Go.Shelf

attribute [local irreducible] wpStill

set_option maxRecDepth 100000 in
set_option maxHeartbeats 1000000 in
theorem store_no2 {hb hx ox nx kx : Nat} {i m : Nat} {k v : Int} {w : World} {L : Lay} {s : HS} (hr : HRep w hb L s) (c1 : w.cell? ⟨hx, 0, none⟩ = some (.pointer (some ⟨hb, 0, none⟩))) (hsl : s.slots.length ≤ 1000000) (c_ox : w.cell? ⟨ox, 0, none⟩ = some (.int .i64 i)) (c_nx : w.cell? ⟨nx, 0, none⟩ = some (.int .i64 v)) (c_kx : w.cell? ⟨kx, 0, none⟩ = some (.int .i64 k))
    {A : AHeap} {G : Areas} {φ : Nat → Int} (hi : InvG s G φ A) (hz : Sized s A) (h0 : A.slots[i]? = some (m + 1)) (hk : k < 0 ∨ ((A.obj m).raws.length : Int) ≤ k) :
    Calls Try.prog 68 #[.pointer (some ⟨hx, 0, none⟩), .pointer (some ⟨ox, 0, none⟩), .pointer (some ⟨nx, 0, none⟩), .pointer (some ⟨kx, 0, none⟩)] w fun e w' => e = .panicked (trouble 1) ∧ Eqw (w.alloc (.cells #[.int .i64 i] 3)) w' := by
  have hlt : i < s.slots.length := by rw [hi.rep.slen]; exact (List.getElem?_eq_some_iff.1 h0).1
  have HT := Lib.hid (there1 hr i hsl (in_slots1.2 ⟨by omega, by omega⟩))
  have hrA := hr.of_fr (fr_alloc1 w (.cells #[.int .i64 i] 3)) (fun _ _ h => h)
  obtain ⟨b, p, ho⟩ := slot_some hrA hi hz h0
  obtain ⟨x, hx1, x2, x3, x4, x5, x6⟩ := ho.hdr
  have e0 := ho.head
  rw [← hx1] at e0
  have HO := Lib.hid ho.call
  obtain ⟨sz, hsz⟩ : ∃ sz, sz = (A.obj m).size := ⟨_, rfl⟩
  have hsz0 : sz = 1 + (A.obj m).refs.length + (A.obj m).raws.length := by rw [hsz]; rfl
  have hszp : 0 < sz := by omega
  rw [← hsz] at HO
  have H69 := Lib.hid (fun W (hc : W.cell? ⟨b, p, none⟩ = some (.int .i64 x)) => raw_no (w := W) (sz := sz) (cap := sz) (k := k) hc hszp (Nat.le_refl _) x2 x3 (by rw [x5]; exact hk))
  have e1 := alloc_cell c1 (.cells #[.int .i64 i] 3)
  have e_ox := alloc_cell c_ox (.cells #[.int .i64 i] 3)
  have e_nx := alloc_cell c_nx (.cells #[.int .i64 i] 3)
  have e_kx := alloc_cell c_kx (.cells #[.int .i64 i] 3)
  clear hr hi hz ho hsz hx1 x4 x5 x6 hrA h0 hsz0 hk
  go_enter Try.func68, Try.ntmps68
  go_wp2_with (first | (go_at_call 50; refine HT.out.mono ?_; rintro e w' ⟨rfl, rfl⟩) | (go_at_call 55; refine (HO.out _ rfl).mono ?_; rintro e w' ⟨rfl, rfl⟩))
  refine wp_region_z (fun W => W.cell? ⟨b, p, none⟩ = some (.int .i64 x) ∧ W.cell? ⟨nx, 0, none⟩ = some (.int .i64 v) ∧ W.cell? ⟨kx, 0, none⟩ = some (.int .i64 k)) 6 (by kernel_rfl) ?_
  have hS : ((w.alloc (.cells #[.int .i64 i] 3))).drew.cell? ⟨b, p, none⟩ = some (.int .i64 x) ∧ ((w.alloc (.cells #[.int .i64 i] 3))).drew.cell? ⟨nx, 0, none⟩ = some (.int .i64 v) ∧ ((w.alloc (.cells #[.int .i64 i] 3))).drew.cell? ⟨kx, 0, none⟩ = some (.int .i64 k) := ⟨e0, e_nx, e_kx⟩
  refine anyZ_marks (fuel := 3) (a' := ?a1) [true, true, true, false, true, false, false] rfl hS (fun _ _ d _ _ h => by cases d <;> exact h) (by kernel_rfl) (fun W hW => ?_) ?_
  rotate_left
  · obtain ⟨s0, s1, s2⟩ := hW
    simp only [pick]
    repeat (go_big_quiet_step (fail))
    refine wpQuiet_nil ?_
    show _ = _
    with_reducible rfl
  refine anyZ_step 3 rfl (by kernel_rfl) rfl (fun K hK => ?_)
  go_simp
  go_at_call 69
  refine (H69.out _ hS.1).mono ?_
  rintro e w' ⟨rfl, rfl⟩
  exact ⟨rfl, rfl, rfl, rfl, rfl, rfl⟩

set_option maxRecDepth 100000 in
set_option maxHeartbeats 1000000 in
theorem grow_no1 {nx hx : Nat} {n : Int} {w : World} (c2 : w.cell? ⟨nx, 0, none⟩ = some (.int .i64 n)) (hn : n < 0) :
    Calls Try.prog 66 #[.pointer (some ⟨nx, 0, none⟩), .pointer (some ⟨hx, 0, none⟩)] w fun e w' => e = .panicked (trouble 1) ∧ Eqw w w' := by
  have hd : decide (0 ≤ n) = false := by simp; omega
  clear hn
  go_enter Try.func66, Try.ntmps66
  go_wp2_with (go_at_call 51; refine (fail_no _ _).mono ?_; rintro e w' ⟨rfl, rfl⟩)
  exact ⟨rfl, rfl, rfl, rfl, rfl, rfl⟩

set_option maxRecDepth 100000 in
set_option maxHeartbeats 1000000 in
theorem grow_no3 {hb nx hx : Nat} {n : Int} {w : World} {L : Lay} {s : HS} (hr : HRep w hb L s) (c1 : w.cell? ⟨hx, 0, none⟩ = some (.pointer (some ⟨hb, 0, none⟩))) (c2 : w.cell? ⟨nx, 0, none⟩ = some (.int .i64 n)) (h0 : 0 ≤ n) (hs : s.slots.length ≤ 4096) (hn : 4096 - (s.slots.length : Int) < n) :
    Calls Try.prog 66 #[.pointer (some ⟨nx, 0, none⟩), .pointer (some ⟨hx, 0, none⟩)] w fun e w' => e = .panicked (trouble 3) ∧ Eqw w w' := by
  obtain ⟨a, cap, e⟩ := hr.slots.shape
  have d1 := hr.c12
  rw [e] at d1
  obtain ⟨sl, hsl⟩ : ∃ sl, sl = s.slots.length := ⟨_, rfl⟩
  rw [← hsl] at d1 hn hs
  have hd : decide (0 ≤ n) = true := by simp; omega
  have hd2 : decide (n ≤ 4096 - (sl : Int)) = false := by simp; omega
  have hwr : IntKind.i64.wrap (4096 - (sl : Int)) = 4096 - (sl : Int) := IntWalk.i64_in _ (by omega)
  clear hr e hsl hn h0
  go_enter Try.func66, Try.ntmps66
  go_wp2_with (go_at_call 51; refine (fail_yes _ _).mono ?_; rintro e w' ⟨rfl, rfl⟩)
  refine region_tail 8 (by kernel_rfl) (by kernel_rfl) ?_
  simp only [List.take_succ_cons, List.take_zero, List.drop_succ_cons, List.drop_zero]
  refine wpStill_want rfl (fun K hK => ?_)
  have HK := Lib.hid hK
  clear hK
  go_simp
  refine HK.out _ ?_
  clear HK K
  refine wpStill_want rfl (fun K hK => ?_)
  have HK := Lib.hid hK
  clear hK
  go_simp
  refine HK.out _ ?_
  clear HK K
  refine wpStill_want rfl (fun K hK => ?_)
  have HK := Lib.hid hK
  clear hK
  go_simp
  refine HK.out _ ?_
  clear HK K
  refine wpStill_want rfl (fun K hK => ?_)
  have HK := Lib.hid hK
  clear hK
  go_simp
  refine HK.out _ ?_
  clear HK K
  refine wpStill_want rfl (fun K hK => ?_)
  have HK := Lib.hid hK
  clear hK
  go_simp
  refine HK.out _ ?_
  clear HK K
  refine wpStill_want rfl (fun K hK => ?_)
  have HK := Lib.hid hK
  clear hK
  go_simp
  refine HK.out _ ?_
  clear HK K
  refine wpStill_want rfl (fun K hK => ?_)
  have HK := Lib.hid hK
  clear hK
  go_simp
  refine HK.out _ ?_
  clear HK K
  refine wpStill_want rfl (fun K hK => ?_)
  have HK := Lib.hid hK
  clear hK
  go_simp
  refine HK.out _ ?_
  clear HK K
  refine wpStill_nil ?_
  go_wp2_with (go_at_call 51; refine (fail_no _ _).mono ?_; rintro e w' ⟨rfl, rfl⟩)
  exact ⟨rfl, rfl, rfl, rfl, rfl, rfl⟩

set_option maxRecDepth 100000 in
set_option maxHeartbeats 1000000 in
theorem shrink_no {hb nx hx : Nat} {n : Int} {w : World} {L : Lay} {s : HS} (hr : HRep w hb L s) (c1 : w.cell? ⟨hx, 0, none⟩ = some (.pointer (some ⟨hb, 0, none⟩))) (c2 : w.cell? ⟨nx, 0, none⟩ = some (.int .i64 n)) (_hs : s.slots.length ≤ 4096) (hn : n < 0 ∨ (s.slots.length : Int) < n) :
    Calls Try.prog 65 #[.pointer (some ⟨nx, 0, none⟩), .pointer (some ⟨hx, 0, none⟩)] w fun e w' => e = .panicked (trouble 1) ∧ Eqw w w' := by
  obtain ⟨a, cap, e⟩ := hr.slots.shape
  have d1 := hr.c12
  rw [e] at d1
  obtain ⟨sl, hsl⟩ : ∃ sl, sl = s.slots.length := ⟨_, rfl⟩
  rw [← hsl] at d1 hn
  clear hr e hsl
  rcases Int.lt_or_le n 0 with hk0 | hk0
  · have hd : decide (0 ≤ n) = false := by simp; omega
    clear hn hk0
    go_enter Try.func65, Try.ntmps65
    go_wp2
    refine region_tail 11 (by kernel_rfl) (by kernel_rfl) ?_
    simp only [List.take_succ_cons, List.take_zero, List.drop_succ_cons, List.drop_zero]
    refine wpStill_want rfl (fun K hK => ?_)
    have HK := Lib.hid hK
    clear hK
    go_simp
    refine HK.out _ ?_
    clear HK K
    refine wpStill_want rfl (fun K hK => ?_)
    have HK := Lib.hid hK
    clear hK
    go_simp
    refine HK.out _ ?_
    clear HK K
    refine wpStill_want rfl (fun K hK => ?_)
    have HK := Lib.hid hK
    clear hK
    go_simp
    refine HK.out _ ?_
    clear HK K
    refine wpStill_skip rfl ?_
    refine wpStill_skip rfl ?_
    refine wpStill_skip rfl ?_
    refine wpStill_skip rfl ?_
    refine wpStill_skip rfl ?_
    refine wpStill_skip rfl ?_
    refine wpStill_skip rfl ?_
    refine wpStill_want rfl (fun K hK => ?_)
    have HK := Lib.hid hK
    clear hK
    go_simp
    refine HK.out _ ?_
    clear HK K
    refine wpStill_nil ?_
    go_wp2_with (go_at_call 51; refine (fail_no _ _).mono ?_; rintro e w' ⟨rfl, rfl⟩)
    exact ⟨rfl, rfl, rfl, rfl, rfl, rfl⟩
  · have hd : decide (0 ≤ n) = true := by simp; omega
    have hd2 : decide (n ≤ (sl : Int)) = false := by simp; omega
    clear hn hk0
    go_enter Try.func65, Try.ntmps65
    go_wp2
    refine region_tail 11 (by kernel_rfl) (by kernel_rfl) ?_
    simp only [List.take_succ_cons, List.take_zero, List.drop_succ_cons, List.drop_zero]
    refine wpStill_want rfl (fun K hK => ?_)
    have HK := Lib.hid hK
    clear hK
    go_simp
    refine HK.out _ ?_
    clear HK K
    refine wpStill_want rfl (fun K hK => ?_)
    have HK := Lib.hid hK
    clear hK
    go_simp
    refine HK.out _ ?_
    clear HK K
    refine wpStill_want rfl (fun K hK => ?_)
    have HK := Lib.hid hK
    clear hK
    go_simp
    refine HK.out _ ?_
    clear HK K
    refine wpStill_want rfl (fun K hK => ?_)
    have HK := Lib.hid hK
    clear hK
    go_simp
    refine HK.out _ ?_
    clear HK K
    refine wpStill_want rfl (fun K hK => ?_)
    have HK := Lib.hid hK
    clear hK
    go_simp
    refine HK.out _ ?_
    clear HK K
    refine wpStill_want rfl (fun K hK => ?_)
    have HK := Lib.hid hK
    clear hK
    go_simp
    refine HK.out _ ?_
    clear HK K
    refine wpStill_want rfl (fun K hK => ?_)
    have HK := Lib.hid hK
    clear hK
    go_simp
    refine HK.out _ ?_
    clear HK K
    refine wpStill_want rfl (fun K hK => ?_)
    have HK := Lib.hid hK
    clear hK
    go_simp
    refine HK.out _ ?_
    clear HK K
    refine wpStill_want rfl (fun K hK => ?_)
    have HK := Lib.hid hK
    clear hK
    go_simp
    refine HK.out _ ?_
    clear HK K
    refine wpStill_want rfl (fun K hK => ?_)
    have HK := Lib.hid hK
    clear hK
    go_simp
    refine HK.out _ ?_
    clear HK K
    refine wpStill_want rfl (fun K hK => ?_)
    have HK := Lib.hid hK
    clear hK
    go_simp
    refine HK.out _ ?_
    clear HK K
    refine wpStill_nil ?_
    go_wp2_with (go_at_call 51; refine (fail_no _ _).mono ?_; rintro e w' ⟨rfl, rfl⟩)
    exact ⟨rfl, rfl, rfl, rfl, rfl, rfl⟩

end Go.Proofs.Ythjokcjdphempaa

namespace Go.Proofs.Ythjokcjdphempaa
open Go.RowKit Hp Go.Shelf

attribute [local irreducible] wpStill

theorem wp_clear {o : Oper} {a : Act} {w w' : World} {K : Act → World → Prop} {Q : Exit → Act → World → Prop} (x : Operand) (hop : o.op = Op.call { callee := Callee.builtin Builtin.clear, args := #[x], argTypes := #[35] }) {v : Value} (hx : a.eval x = v)
    (hrun : (Builtin.clear_ #[35] o.type #[v]).run Try.prog w = .ok (.tuple #[]) w') (h : K (a.put o.dst (.tuple #[])) w') : Oper.wp Try.prog o a w K Q := by
  unfold Oper.wp execOp
  simp only [hop, resolve, invoke, builtin, Sem.run_bind, Sem.run_pure, Result.andThen_ok, List.map_toArray, List.map_cons, List.map_nil, hx, hrun]
  exact h

set_option maxRecDepth 100000 in
set_option maxHeartbeats 1000000 in
theorem shrink_core {hb nx hx n m sl cap : Nat} {a : Option Addr} {w : World} (c1 : w.cell? ⟨hx, 0, none⟩ = some (.pointer (some ⟨hb, 0, none⟩))) (c2 : w.cell? ⟨nx, 0, none⟩ = some (.int .i64 n)) (d1 : w.cell? ⟨hb, 12, none⟩ = some (.slice a sl cap))
    (hs : sl ≤ 4096) (hm : sl = m + n) (hc : sl ≤ cap) {CL : World → World} (hcl : ∀ W, W.heap = w.heap → (Builtin.clear_ #[35] 0 #[.slice (if cap = m then a else a.map (fun x => x.add m)) (sl - m) (cap - m)]).run Try.prog W = .ok (.tuple #[]) (CL W))
    (hCL : ∀ W, W.heap = w.heap → (CL W).cell? ⟨hx, 0, none⟩ = some (.pointer (some ⟨hb, 0, none⟩)) ∧ (CL W).cell? ⟨nx, 0, none⟩ = some (.int .i64 n) ∧ (CL W).cell? ⟨hb, 12, none⟩ = some (.slice a sl cap) ∧ (CL W).frozen? ⟨hb, 12, none⟩ = false) :
    Calls Try.prog 65 #[.pointer (some ⟨nx, 0, none⟩), .pointer (some ⟨hx, 0, none⟩)] w fun e w' => e = .returned (.tuple #[]) ∧ ∃ W, Eqw w W ∧ Eqw ((CL W).setCell ⟨hb, 12, none⟩ (.slice a m cap)) w' := by
  have hd : decide ((0 : Int) ≤ (n : Int)) = true := by simp
  have hd2 : decide (n ≤ sl) = true := by simp; omega
  have hwr : IntKind.i64.wrap ((sl : Int) - (n : Int)) = (m : Int) := by rw [IntWalk.i64_in _ (by omega)]; omega
  have g1 : m ≤ sl := by omega
  have g2 : m ≤ cap := by omega
  have HCl := Lib.hid hcl
  have HC := Lib.hid hCL
  clear hm hcl hCL
  go_enter Try.func65, Try.ntmps65
  go_wp2
  go_quiet ((go_at_call 51; exact quiet_same (fail_yes _ _)))
  go_wp2
  refine region_tail 12 (by kernel_rfl) (by kernel_rfl) ?_
  simp only [List.take_succ_cons, List.take_zero, List.drop_succ_cons, List.drop_zero]
  refine wpStill_want rfl (fun K hK => ?_)
  have HK := Lib.hid hK
  clear hK
  go_simp
  refine HK.out _ ?_
  clear HK K
  refine wpStill_want rfl (fun K hK => ?_)
  have HK := Lib.hid hK
  clear hK
  go_simp
  refine HK.out _ ?_
  clear HK K
  refine wpStill_want rfl (fun K hK => ?_)
  have HK := Lib.hid hK
  clear hK
  go_simp
  refine HK.out _ ?_
  clear HK K
  refine wpStill_want rfl (fun K hK => ?_)
  have HK := Lib.hid hK
  clear hK
  go_simp
  refine HK.out _ ?_
  clear HK K
  refine wpStill_want rfl (fun K hK => ?_)
  have HK := Lib.hid hK
  clear hK
  go_simp
  refine HK.out _ ?_
  clear HK K
  refine wpStill_want rfl (fun K hK => ?_)
  have HK := Lib.hid hK
  clear hK
  go_simp
  refine HK.out _ ?_
  clear HK K
  refine wpStill_want rfl (fun K hK => ?_)
  have HK := Lib.hid hK
  clear hK
  go_simp
  refine HK.out _ ?_
  clear HK K
  refine wpStill_want rfl (fun K hK => ?_)
  have HK := Lib.hid hK
  clear hK
  go_simp
  refine HK.out _ ?_
  clear HK K
  refine wpStill_want rfl (fun K hK => ?_)
  have HK := Lib.hid hK
  clear hK
  go_simp
  refine HK.out _ ?_
  clear HK K
  refine wpStill_want rfl (fun K hK => ?_)
  have HK := Lib.hid hK
  clear hK
  go_simp
  refine HK.out _ ?_
  clear HK K
  refine wpStill_want rfl (fun K hK => ?_)
  have HK := Lib.hid hK
  clear hK
  go_simp
  refine HK.out _ ?_
  clear HK K
  refine wpStill_want rfl (fun K hK => ?_)
  have HK := Lib.hid hK
  clear hK
  go_simp
  refine HK.out _ ?_
  clear HK K
  refine wpStill_nil ?_
  refine wpList_plain rfl (fun K hK => wp_clear _ rfl rfl (HCl.out _ rfl) (hK _ _ ?_))
  clear hK K
  generalize (if cap = m then a else Option.map (fun x => x.add m) a) = sv
  obtain ⟨k1, k2, k3, k4⟩ := HC.out ((w.drewN nq).drew) rfl
  obtain ⟨W0, hW0⟩ : ∃ W0, W0 = (w.drewN nq).drew := ⟨_, rfl⟩
  have E0 : Eqw w W0 := by rw [hW0]; exact ⟨rfl, rfl, rfl, rfl⟩
  rw [← hW0] at k1 k2 k3 k4 ⊢
  have H0 := Lib.hid E0
  clear hW0 E0 c1 c2 d1
  obtain ⟨W1, hW1⟩ : ∃ W1, W1 = CL W0 := ⟨_, rfl⟩
  rw [← hW1] at k1 k2 k3 k4 ⊢
  have H1 := Lib.hid hW1
  clear hW1
  go_wp2
  refine region_tail 15 (by kernel_rfl) (by kernel_rfl) ?_
  simp only [List.take_succ_cons, List.take_zero, List.drop_succ_cons, List.drop_zero]
  refine wpStill_want rfl (fun K hK => ?_)
  have HK := Lib.hid hK
  clear hK
  go_simp
  refine HK.out _ ?_
  clear HK K
  refine wpStill_want rfl (fun K hK => ?_)
  have HK := Lib.hid hK
  clear hK
  go_simp
  refine HK.out _ ?_
  clear HK K
  refine wpStill_want rfl (fun K hK => ?_)
  have HK := Lib.hid hK
  clear hK
  go_simp
  refine HK.out _ ?_
  clear HK K
  refine wpStill_want rfl (fun K hK => ?_)
  have HK := Lib.hid hK
  clear hK
  go_simp
  refine HK.out _ ?_
  clear HK K
  refine wpStill_want rfl (fun K hK => ?_)
  have HK := Lib.hid hK
  clear hK
  go_simp
  refine HK.out _ ?_
  clear HK K
  refine wpStill_want rfl (fun K hK => ?_)
  have HK := Lib.hid hK
  clear hK
  go_simp
  refine HK.out _ ?_
  clear HK K
  refine wpStill_want rfl (fun K hK => ?_)
  have HK := Lib.hid hK
  clear hK
  go_simp
  refine HK.out _ ?_
  clear HK K
  refine wpStill_want rfl (fun K hK => ?_)
  have HK := Lib.hid hK
  clear hK
  go_simp
  refine HK.out _ ?_
  clear HK K
  refine wpStill_want rfl (fun K hK => ?_)
  have HK := Lib.hid hK
  clear hK
  go_simp
  refine HK.out _ ?_
  clear HK K
  refine wpStill_want rfl (fun K hK => ?_)
  have HK := Lib.hid hK
  clear hK
  go_simp
  refine HK.out _ ?_
  clear HK K
  refine wpStill_want rfl (fun K hK => ?_)
  have HK := Lib.hid hK
  clear hK
  go_simp
  refine HK.out _ ?_
  clear HK K
  refine wpStill_want rfl (fun K hK => ?_)
  have HK := Lib.hid hK
  clear hK
  go_simp
  refine HK.out _ ?_
  clear HK K
  refine wpStill_want rfl (fun K hK => ?_)
  have HK := Lib.hid hK
  clear hK
  go_simp
  refine HK.out _ ?_
  clear HK K
  refine wpStill_want rfl (fun K hK => ?_)
  have HK := Lib.hid hK
  clear hK
  go_simp
  refine HK.out _ ?_
  clear HK K
  refine wpStill_want rfl (fun K hK => ?_)
  have HK := Lib.hid hK
  clear hK
  go_simp
  refine HK.out _ ?_
  clear HK K
  refine wpStill_nil ?_
  go_wp2
  go_end0
  exact ⟨rfl, W0, H0.out, by rw [← H1.out]; exact ⟨rfl, rfl, rfl, rfl⟩⟩

theorem run_clear0 (W : World) (a : Option Addr) (c : Nat) : (Builtin.clear_ #[35] 0 #[.slice a 0 c]).run Try.prog W = .ok (.tuple #[]) W := by
  cases a with
  | none => simp [Builtin.clear_, run_underlying Try.underlying35]
  | some a => simp [Builtin.clear_, run_underlying Try.underlying35]

theorem ints_set (cs : List Int) (o : Nat) (x : Int) : (ints cs).toArray.setIfInBounds o (.int .i64 x) = (ints (cs.set o x)).toArray := by
  simp [ints]

theorem zeros_sl {b : Nat} : ∀ (n o : Nat) (w : World) (cs : List Int), w.heap[b]? = some (.cells (ints cs).toArray 3 (0, 0)) → o + n ≤ cs.length →
    ∃ cs' : List Int, (w.setCells b o (List.replicate n (.int .i64 0))).heap[b]? = some (.cells (ints cs').toArray 3 (0, 0)) ∧ cs'.length = cs.length ∧ (∀ j, j < o → cs'[j]? = cs[j]?) ∧ Fr (fun k => k = b) w (w.setCells b o (List.replicate n (.int .i64 0)))
  | 0, o, w, cs, h, _ => ⟨cs, h, rfl, fun _ _ => rfl, Fr.refl _ _⟩
  | n + 1, o, w, cs, h, hl => by
    have h1 := setCell_block w b o (.int .i64 0) h
    rw [ints_set] at h1
    obtain ⟨cs', q1, q2, q3, q4⟩ := zeros_sl n (o + 1) (w.setCell ⟨b, o, none⟩ (.int .i64 0)) (cs.set o 0) h1 (by simp; omega)
    refine ⟨cs', q1, by rw [q2]; simp, fun j hj => ?_, (fr_setCell w b o _).trans q4 fun j hj => .inl hj⟩
    rw [q3 j (by omega), List.getElem?_set_ne (by omega)]

theorem Left.eq_w {hb : Nat} {L L' : Lay} {w w' w'' : World} (h : Left hb L L' w w') (e : Eqw w' w'') : Left hb L L' w w'' :=
  ⟨⟨e.2.1.trans h.fr.os, e.2.2.1.trans h.fr.tape, e.2.2.2.trans h.fr.output, by rw [e.1]; exact h.fr.size, fun j hj hn => by rw [e.1]; exact h.fr.block j hj hn⟩, h.foot⟩

theorem shrink_yes {hb nx hx n : Nat} {w : World} {L : Lay} {s : HS} (hr : HRep w hb L s) (c1 : w.cell? ⟨hx, 0, none⟩ = some (.pointer (some ⟨hb, 0, none⟩))) (c2 : w.cell? ⟨nx, 0, none⟩ = some (.int .i64 n))
    (n1 : ¬ L.foot hb hx) (n2 : ¬ L.foot hb nx) (hs : s.slots.length ≤ 4096) (hn : n ≤ s.slots.length) :
    Calls Try.prog 65 #[.pointer (some ⟨nx, 0, none⟩), .pointer (some ⟨hx, 0, none⟩)] w fun e w' => e = .returned (.tuple #[]) ∧ ∃ L', HRep w' hb L' { s with slots := s.slots.take (s.slots.length - n) } ∧ Left hb L L' w w' := by
  obtain ⟨a, cap, e⟩ := hr.slots.shape
  have d1 := hr.c12
  rw [e] at d1
  have hcap := (hr.slots.caps e).2.1
  have hsl := hr.slots
  rw [e] at hsl
  have fin : ∀ W w1 w' : World, Eqw w W → Fr (fun k => (L.v 3).ownBlock = some k) W w1 → IsSl w1 (.slice a (s.slots.length - n) cap) (s.slots.take (s.slots.length - n)) → Eqw (w1.setCell ⟨hb, 12, none⟩ (.slice a (s.slots.length - n) cap)) w' →
      ∃ L', HRep w' hb L' { s with slots := s.slots.take (s.slots.length - n) } ∧ Left hb L L' w w' := by
    intro W w1 w' E hf hi hE
    have hrW : HRep W hb L s := hr.of_heap E.1
    have hown : (Value.slice a (s.slots.length - n) cap).ownBlock = (L.v 3).ownBlock := by rw [e]; cases a <;> rfl
    have r3 := hrW.list (i := 3) (by omega) hi hf (.inl hown)
    have l3 : Left hb L (L.set 3 _) W _ := HRep.left_list (i := 3) (by omega) 12 hf (.inl hown)
    exact ⟨_, r3.of_heap hE.1, (l3.of_heap (w := w) E.1 E.2.1 E.2.2.1 E.2.2.2).eq_w hE⟩
  by_cases h0 : n = 0
  · subst h0
    refine (shrink_core (m := s.slots.length) (CL := fun W => W) c1 c2 d1 hs rfl hcap (fun W _ => by rw [Nat.sub_self]; exact run_clear0 W _ _) (fun W hW => ⟨(cell_of_heap (a := ⟨hx, 0, none⟩) (by rw [hW])).trans c1, (cell_of_heap (a := ⟨nx, 0, none⟩) (by rw [hW])).trans c2, (cell_of_heap (a := ⟨hb, 12, none⟩) (by rw [hW])).trans d1, (frozen_of_heap (a := ⟨hb, 12, none⟩) (by rw [hW])).trans (hr.froz 12)⟩)).mono ?_
    rintro e w' ⟨rfl, W, E, hE⟩
    refine ⟨rfl, fin W W w' E (Fr.refl _ _) ?_ hE⟩
    rw [Nat.sub_zero, List.take_length]
    exact hsl.of_heap E.1
  · rcases hsl with ⟨h1, h2⟩ | ⟨b, off, cap', cs, h1, h2, h3, h4, h5, h6⟩
    · rw [h2] at hn; simp at hn; omega
    · cases h1
      have hlb : (L.v 3).ownBlock = some b := by rw [e]; rfl
      have hadd : ∀ j, Option.map (fun x : Addr => x.add j) (some (⟨b, off, none⟩ : Addr)) = some ⟨b, off + j, none⟩ := fun j => by unfold Addr.add; simp
      have hbn : b ≠ hb := fun x => hr.off 3 (by omega) (by rw [hlb, x])
      have hbx : b ≠ hx := fun x => n1 (ownBlock_foot (i := 3) (by omega) (by rw [hlb, x]))
      have hbx2 : b ≠ nx := fun x => n2 (ownBlock_foot (i := 3) (by omega) (by rw [hlb, x]))
      have hv : ∀ w, (zeroValue 3).run Try.prog w = .ok (.int .i64 0) w := fun _ => by kernel_rfl
      have key : ∀ W : World, W.heap = w.heap → W.heap[b]? = some (.cells (ints cs).toArray 3 (0, 0)) := fun W hW => by rw [hW]; exact h2
      refine (shrink_core (m := s.slots.length - n) (CL := fun W => W.setCells b (off + (s.slots.length - n)) (List.replicate n (.int .i64 0))) c1 c2 d1 hs (by omega) hcap (fun W hW => ?_) (fun W hW => ?_)).mono ?_
      · rw [if_neg (by omega)]
        rw [hadd, show s.slots.length - (s.slots.length - n) = n by omega]
        refine Lib.run_clear_slice W 35 3 0 (.int .i64 0) Try.underlying35 hv (by kernel_rfl) (by kernel_rfl) b (off + (s.slots.length - n)) n (cap - (s.slots.length - n)) (by omega) (fun j hj => ?_) (fun j hj => ?_)
        · have hk := key W hW
          simp only [World.cell?, hk, Option.isSome_none, Bool.false_eq_true, if_false]
          rw [List.getElem?_toArray]
          unfold ints
          rw [List.getElem?_map, List.getElem?_eq_getElem (by omega)]
          rfl
        · simp [World.frozen?, key W hW]
      · obtain ⟨cs', q1, q2, q3, q4⟩ := zeros_sl n (off + (s.slots.length - n)) W cs (key W hW) (by omega)
        have hold : ∀ k, k ≠ b → k < w.heap.size → (W.setCells b (off + (s.slots.length - n)) (List.replicate n (.int .i64 0))).heap[k]? = w.heap[k]? := fun k hk hl => by rw [q4.block k (by rw [hW]; exact hl) hk, hW]
        have e1 := hold hx hbx.symm (World.block_lt_of_cell? _ _ c1)
        have e2 := hold nx hbx2.symm (World.block_lt_of_cell? _ _ c2)
        have e3 := hold hb hbn.symm (hr.lt (.inl rfl))
        exact ⟨(cell_of_heap (a := ⟨hx, 0, none⟩) e1).trans c1, (cell_of_heap (a := ⟨nx, 0, none⟩) e2).trans c2, (cell_of_heap (a := ⟨hb, 12, none⟩) e3).trans d1, (frozen_of_heap (a := ⟨hb, 12, none⟩) e3).trans (hr.froz 12)⟩
      · rintro e' w' ⟨rfl, W, E, hE⟩
        obtain ⟨cs', q1, q2, q3, q4⟩ := zeros_sl n (off + (s.slots.length - n)) W cs (key W E.1) (by omega)
        refine ⟨rfl, fin W _ w' E (q4.mono fun k hk => by rw [hlb, hk]) ?_ hE⟩
        refine .inr ⟨b, off, cap, cs', ?_, q1, by omega, by rw [List.length_take]; omega, by omega, ?_⟩
        · rw [List.length_take, Nat.min_eq_left (by omega)]
        · rw [List.length_take, Nat.min_eq_left (by omega)]
          have hh : ∀ i, i < s.slots.length → s.slots[i]? = cs[off + i]? := fun i hi => by
            have h7 := congrArg (fun l => l[i]?) h6
            simp only [List.getElem?_take, List.getElem?_drop, if_pos hi] at h7
            exact h7.symm
          apply List.ext_getElem?
          intro i
          rw [List.getElem?_take, List.getElem?_take]
          by_cases hi : i < s.slots.length - n
          · rw [if_pos hi, if_pos hi, List.getElem?_drop, q3 _ (by omega), hh i (by omega)]
          · rw [if_neg hi, if_neg hi]
end Go.Proofs.Ythjokcjdphempaa
