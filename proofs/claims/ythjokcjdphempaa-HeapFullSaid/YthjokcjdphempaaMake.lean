/- The closure of Make: the code. -/
import Derived.Test.YthjokcjdphempaaGrow
set_option linter.unusedVariables false
namespace Go.Proofs.Ythjokcjdphempaa
open Go.RowKit Hp Go.Shelf

set_option maxRecDepth 100000 in
set_option maxHeartbeats 2000000 in
theorem make_no1 {hb hx tx gx rx wx : Nat} {w : World} {L : Lay} {s : HS} (hr : HRep w hb L s) (hsl : s.slots.length ≤ 1000000) {to : Int} (c1 : w.cell? ⟨hx, 0, none⟩ = some (.pointer (some ⟨hb, 0, none⟩))) (c_tx : w.cell? ⟨tx, 0, none⟩ = some (.int .i64 to)) (hk : inSlots s [to] = false) :
    Calls Try.prog 49 #[.pointer (some ⟨hx, 0, none⟩), .pointer (some ⟨tx, 0, none⟩), .pointer (some ⟨gx, 0, none⟩), .pointer (some ⟨rx, 0, none⟩), .pointer (some ⟨wx, 0, none⟩)] w fun e w' => e = .panicked (trouble 1) ∧ (w.alloc (.cells #[.int .i64 to] 3)) = w' := by
  have HT := Lib.hid (there1_no hr to hsl hk)
  clear hr hk
  go_enter Try.func49, Try.ntmps49
  go_wp2_with (go_at_call 50; refine HT.out.mono ?_; rintro e w' ⟨rfl, rfl⟩)
  exact ⟨rfl, rfl, rfl⟩

/-- The state of a heap in which an object of so many words is about to be made. -/
def counted (s : HS) (size : Nat) : HS := { s with bound := s.bound + size, objs := s.objs + 1, words := s.words + size }

/-- What the making of an object needs of the world behind made, and what it leaves. -/
structure MadeX (hb hx tx gx rx wx to tag refs raws : Nat) (N : Int → Value → World → Prop) : Prop where
  ok : ∀ x v W, N x v W → W.cell? ⟨hx, 0, none⟩ = some (.pointer (some ⟨hb, 0, none⟩)) ∧ W.cell? ⟨tx, 0, none⟩ = some (.int .i64 to) ∧ W.cell? ⟨gx, 0, none⟩ = some (.int .i64 tag) ∧ W.cell? ⟨rx, 0, none⟩ = some (.int .i64 refs) ∧
    W.cell? ⟨wx, 0, none⟩ = some (.int .i64 raws) ∧ W.cell? ⟨hb, 12, none⟩ = some v ∧ ∃ sb off sl cap, v = .slice (some ⟨sb, off, none⟩) sl cap ∧ to < sl ∧ (∃ y, W.cell? ⟨sb, off + to, none⟩ = some (.int .i64 y)) ∧ W.frozen? ⟨sb, off + to, none⟩ = false

theorem counted_rep {hb : Nat} {L : Lay} {s : HS} {w : World} (hr : HRep w hb L s) (n : Nat) :
    HRep (((w.setCell ⟨hb, 15, none⟩ (.int .i64 (s.bound + n))).setCell ⟨hb, 0, none⟩ (.int .i64 (s.objs + 1))).setCell ⟨hb, 1, none⟩ (.int .i64 (s.words + n))) hb L (counted s n) := by
  have r1 : HRep (w.setCell ⟨hb, 15, none⟩ (.int .i64 (s.bound + n))) hb L { s with bound := s.bound + n } := hr.scalar 15 _ rfl (fun i _ => rfl)
  have r2 : HRep ((w.setCell ⟨hb, 15, none⟩ (.int .i64 (s.bound + n))).setCell ⟨hb, 0, none⟩ (.int .i64 (s.objs + 1))) hb L { s with bound := s.bound + n, objs := s.objs + 1 } := r1.scalar 0 _ rfl (fun i _ => rfl)
  exact r2.scalar 1 _ rfl (fun i _ => rfl)

theorem cells3 {hb : Nat} {w : World} {x y z : Value} {b : Nat} (h : b ≠ hb) : (((w.setCell ⟨hb, 15, none⟩ x).setCell ⟨hb, 0, none⟩ y).setCell ⟨hb, 1, none⟩ z).heap[b]? = w.heap[b]? :=
  (setCell_other _ hb 1 _ h).trans ((setCell_other _ hb 0 _ h).trans (setCell_other _ hb 15 _ h))

set_option maxRecDepth 100000 in
set_option maxHeartbeats 2000000 in
theorem make_fit {hb hx tx gx rx wx : Nat} {w : World} {L : Lay} {s : HS} (hr : HRep w hb L s) (hsl : s.slots.length ≤ 1000000) {to tag refs raws : Nat} (c1 : w.cell? ⟨hx, 0, none⟩ = some (.pointer (some ⟨hb, 0, none⟩))) (c_tx : w.cell? ⟨tx, 0, none⟩ = some (.int .i64 to)) (c_gx : w.cell? ⟨gx, 0, none⟩ = some (.int .i64 tag)) (c_rx : w.cell? ⟨rx, 0, none⟩ = some (.int .i64 refs)) (c_wx : w.cell? ⟨wx, 0, none⟩ = some (.int .i64 raws)) (hto : to < s.slots.length) (htag : tag < 65536) (hrf : refs ≤ 4000) (hrw : raws ≤ 4000) (hb0 : 0 ≤ s.bound ∧ s.bound ≤ 1000000) (hro : 0 ≤ s.room ∧ s.room ≤ 65536) (hob : 0 ≤ s.objs ∧ s.objs ≤ 1000000000000) (hwd : 0 ≤ s.words ∧ s.words ≤ 1000000000000) (nhx : ¬ L.foot hb hx) (ntx : ¬ L.foot hb tx) (ngx : ¬ L.foot hb gx) (nrx : ¬ L.foot hb rx) (nwx : ¬ L.foot hb wx)
    (hfit : s.bound + (1 + (refs : Int) + (raws : Int)) ≤ s.room) {N : Int → Value → World → Prop} (hN : MadeX hb hx tx gx rx wx to tag refs raws N)
    (H52 : ∀ W, Eqw (((((w.alloc (.cells #[.int .i64 to] 3))).setCell ⟨hb, 15, none⟩ (.int .i64 (s.bound + (1 + (refs : Int) + (raws : Int))))).setCell ⟨hb, 0, none⟩ (.int .i64 (s.objs + 1))).setCell ⟨hb, 1, none⟩ (.int .i64 (s.words + (1 + (refs : Int) + (raws : Int))))) W →
      Calls Try.prog 52 #[.pointer (some ⟨hb, 0, none⟩), .int .i64 tag, .int .i64 refs, .int .i64 raws] W fun e W' => ∃ x, e = .returned (.int .i64 x) ∧ N x (L.v 3) W') :
    Calls Try.prog 49 #[.pointer (some ⟨hx, 0, none⟩), .pointer (some ⟨tx, 0, none⟩), .pointer (some ⟨gx, 0, none⟩), .pointer (some ⟨rx, 0, none⟩), .pointer (some ⟨wx, 0, none⟩)] w fun e w' => e = .returned (.tuple #[]) ∧ ∃ x sb off sl cap W, L.v 3 = .slice (some ⟨sb, off, none⟩) sl cap ∧ N x (L.v 3) W ∧ Eqw (W.setCell ⟨sb, off + to, none⟩ (.int .i64 x)) w' := by
  have HT := Lib.hid (there1 hr to hsl (in_slots1.2 ⟨by omega, by omega⟩))
  have hrA := hr.of_fr (fr_alloc1 w (.cells #[.int .i64 to] 3)) (fun _ _ h => h)
  have htg : (tag : Int) ≤ 65535 := by omega
  have hr4 : (refs : Int) ≤ 4000 := by omega
  have hw4 : (raws : Int) ≤ 4000 := by omega
  have c1 := alloc_cell c1 (.cells #[.int .i64 to] 3)
  have c_tx := alloc_cell c_tx (.cells #[.int .i64 to] 3)
  have c_gx := alloc_cell c_gx (.cells #[.int .i64 to] 3)
  have c_rx := alloc_cell c_rx (.cells #[.int .i64 to] 3)
  have c_wx := alloc_cell c_wx (.cells #[.int .i64 to] 3)
  have b15 := hrA.c15
  have b6 := hrA.c6
  obtain ⟨bd, hbd⟩ : ∃ x, x = s.bound := ⟨_, rfl⟩
  obtain ⟨room, hroom⟩ : ∃ x, x = s.room := ⟨_, rfl⟩
  rw [← hbd] at b15
  rw [← hroom] at b6
  have z0 := hrA.c0
  have z1 := hrA.c1
  obtain ⟨ob, hob'⟩ : ∃ x, x = s.objs := ⟨_, rfl⟩
  obtain ⟨wd, hwd'⟩ : ∃ x, x = s.words := ⟨_, rfl⟩
  rw [← hob'] at z0 hob
  rw [← hwd'] at z1 hwd
  rw [← hbd] at hfit hb0
  rw [← hroom] at hfit hro
  obtain ⟨sb, off, cap, z12, zc, _, z3, _⟩ := hrA.slot hto
  have Fz := Lib.hid hrA.froz
  have e1 : hx ≠ hb := fun e => nhx (.inl e)
  have e2 : tx ≠ hb := fun e => ntx (.inl e)
  have e3 : gx ≠ hb := fun e => ngx (.inl e)
  have e4 : rx ≠ hb := fun e => nrx (.inl e)
  have e5 : wx ≠ hb := fun e => nwx (.inl e)
  rw [← hbd, ← hob', ← hwd'] at H52
  have A52 := Lib.hid H52
  have AN := Lib.hid hN.ok
  obtain ⟨sl, hsl'⟩ : ∃ n, n = s.slots.length := ⟨_, rfl⟩
  rw [← hsl'] at z12 hto hsl zc z3
  have hL3 := Lib.hid z3
  have hf : ¬ (room < bd + (1 + (refs : Int) + (raws : Int))) := by omega
  have hf2 : bd + (1 + (refs : Int) + (raws : Int)) ≤ room := by omega
  clear hr hrA H52 hN hbd hroom hob' hwd' z3 nhx ntx ngx nrx nwx hsl'
  obtain ⟨hb1, hb2⟩ := hb0
  obtain ⟨ho1, ho2⟩ := hob
  obtain ⟨hw1, hw2⟩ := hwd
  go_enter Try.func49, Try.ntmps49
  go_wp2_with (first | (go_at_call 50; refine HT.out.mono ?_; rintro e w' ⟨rfl, rfl⟩) | (go_at_call 51; refine (fail_yes _ _).mono ?_; rintro e w' ⟨rfl, rfl⟩))
  go_quiet (fail)
  obtain ⟨WP, hWP⟩ : ∃ W, W = (w.alloc (.cells #[.int .i64 to] 3)).drewN nq := ⟨_, rfl⟩
  replace b15 : WP.cell? ⟨hb, 15, none⟩ = some (.int .i64 bd) := by rw [hWP]; exact b15
  replace b6 : WP.cell? ⟨hb, 6, none⟩ = some (.int .i64 room) := by rw [hWP]; exact b6
  replace z0 : WP.cell? ⟨hb, 0, none⟩ = some (.int .i64 ob) := by rw [hWP]; exact z0
  replace z1 : WP.cell? ⟨hb, 1, none⟩ = some (.int .i64 wd) := by rw [hWP]; exact z1
  replace z12 : WP.cell? ⟨hb, 12, none⟩ = some (.slice (some ⟨sb, off, none⟩) sl cap) := by rw [hWP]; exact z12
  replace c1 : WP.cell? ⟨hx, 0, none⟩ = some (.pointer (some ⟨hb, 0, none⟩)) := by rw [hWP]; exact c1
  replace c_tx : WP.cell? ⟨tx, 0, none⟩ = some (.int .i64 to) := by rw [hWP]; exact c_tx
  replace c_gx : WP.cell? ⟨gx, 0, none⟩ = some (.int .i64 tag) := by rw [hWP]; exact c_gx
  replace c_rx : WP.cell? ⟨rx, 0, none⟩ = some (.int .i64 refs) := by rw [hWP]; exact c_rx
  replace c_wx : WP.cell? ⟨wx, 0, none⟩ = some (.int .i64 raws) := by rw [hWP]; exact c_wx
  have Fz2 := Lib.hid (show ∀ k, WP.frozen? ⟨hb, k, none⟩ = false by rw [hWP]; exact Fz.out)
  replace A52 := Lib.hid (fun W (hW : Eqw (((WP.setCell ⟨hb, 15, none⟩ (.int .i64 (bd + (1 + (refs : Int) + (raws : Int))))).setCell ⟨hb, 0, none⟩ (.int .i64 (ob + 1))).setCell ⟨hb, 1, none⟩ (.int .i64 (wd + (1 + (refs : Int) + (raws : Int))))) W) => A52.out W (by rw [hWP] at hW; exact hW))
  rw [← hWP]
  clear hWP Fz
  have Fz := Fz2
  clear Fz2
  go_wp2
  go_quiet ((go_at_call 51; exact quiet_same (fail_yes _ _)))
  obtain ⟨WQ, hWQ⟩ : ∃ W, W = (WP).drewN nq := ⟨_, rfl⟩
  have y15 : WQ.cell? ⟨hb, 15, none⟩ = some (.int .i64 bd) := by rw [hWQ]; exact b15
  have y0 : WQ.cell? ⟨hb, 0, none⟩ = some (.int .i64 ob) := by rw [hWQ]; exact z0
  have y1 : WQ.cell? ⟨hb, 1, none⟩ = some (.int .i64 wd) := by rw [hWQ]; exact z1
  have y12 : WQ.cell? ⟨hb, 12, none⟩ = some (.slice (some ⟨sb, off, none⟩) sl cap) := by rw [hWQ]; exact z12
  have yc1 : WQ.cell? ⟨hx, 0, none⟩ = some (.pointer (some ⟨hb, 0, none⟩)) := by rw [hWQ]; exact c1
  have yc2 : WQ.cell? ⟨tx, 0, none⟩ = some (.int .i64 to) := by rw [hWQ]; exact c_tx
  have yc3 : WQ.cell? ⟨gx, 0, none⟩ = some (.int .i64 tag) := by rw [hWQ]; exact c_gx
  have yc4 : WQ.cell? ⟨rx, 0, none⟩ = some (.int .i64 refs) := by rw [hWQ]; exact c_rx
  have yc5 : WQ.cell? ⟨wx, 0, none⟩ = some (.int .i64 raws) := by rw [hWQ]; exact c_wx
  have yf : ∀ k, WQ.frozen? ⟨hb, k, none⟩ = false := by rw [hWQ]; exact Fz.out
  have yf15 := yf 15
  have yf0 := yf 0
  have yf1 := yf 1
  have A52' := Lib.hid (fun W (hW : Eqw (((WQ.setCell ⟨hb, 15, none⟩ (.int .i64 (bd + (1 + (refs : Int) + (raws : Int))))).setCell ⟨hb, 0, none⟩ (.int .i64 (ob + 1))).setCell ⟨hb, 1, none⟩ (.int .i64 (wd + (1 + (refs : Int) + (raws : Int))))) W) => A52.out W (by rw [hWQ] at hW; exact hW))
  rw [← hWQ]
  clear hWQ A52 b15 z0 z1 z12 c1 c_tx c_gx c_rx c_wx yf
  go_wp2
  have s1 : (((WQ.setCell ⟨hb, 15, none⟩ (.int .i64 (bd + (1 + (refs : Int) + (raws : Int))))).setCell ⟨hb, 0, none⟩ (.int .i64 (ob + 1))).setCell ⟨hb, 1, none⟩ (.int .i64 (wd + (1 + (refs : Int) + (raws : Int))))).cell? ⟨hx, 0, none⟩ = some (.pointer (some ⟨hb, 0, none⟩)) := (cell_of_heap (cells3 e1)).trans yc1
  have s2 : (((WQ.setCell ⟨hb, 15, none⟩ (.int .i64 (bd + (1 + (refs : Int) + (raws : Int))))).setCell ⟨hb, 0, none⟩ (.int .i64 (ob + 1))).setCell ⟨hb, 1, none⟩ (.int .i64 (wd + (1 + (refs : Int) + (raws : Int))))).cell? ⟨tx, 0, none⟩ = some (.int .i64 to) := (cell_of_heap (cells3 e2)).trans yc2
  have s3 : (((WQ.setCell ⟨hb, 15, none⟩ (.int .i64 (bd + (1 + (refs : Int) + (raws : Int))))).setCell ⟨hb, 0, none⟩ (.int .i64 (ob + 1))).setCell ⟨hb, 1, none⟩ (.int .i64 (wd + (1 + (refs : Int) + (raws : Int))))).cell? ⟨gx, 0, none⟩ = some (.int .i64 tag) := (cell_of_heap (cells3 e3)).trans yc3
  have s4 : (((WQ.setCell ⟨hb, 15, none⟩ (.int .i64 (bd + (1 + (refs : Int) + (raws : Int))))).setCell ⟨hb, 0, none⟩ (.int .i64 (ob + 1))).setCell ⟨hb, 1, none⟩ (.int .i64 (wd + (1 + (refs : Int) + (raws : Int))))).cell? ⟨rx, 0, none⟩ = some (.int .i64 refs) := (cell_of_heap (cells3 e4)).trans yc4
  have s5 : (((WQ.setCell ⟨hb, 15, none⟩ (.int .i64 (bd + (1 + (refs : Int) + (raws : Int))))).setCell ⟨hb, 0, none⟩ (.int .i64 (ob + 1))).setCell ⟨hb, 1, none⟩ (.int .i64 (wd + (1 + (refs : Int) + (raws : Int))))).cell? ⟨wx, 0, none⟩ = some (.int .i64 raws) := (cell_of_heap (cells3 e5)).trans yc5
  have s6 : (((WQ.setCell ⟨hb, 15, none⟩ (.int .i64 (bd + (1 + (refs : Int) + (raws : Int))))).setCell ⟨hb, 0, none⟩ (.int .i64 (ob + 1))).setCell ⟨hb, 1, none⟩ (.int .i64 (wd + (1 + (refs : Int) + (raws : Int))))).cell? ⟨hb, 12, none⟩ = some (.slice (some ⟨sb, off, none⟩) sl cap) := by
    rw [World.cell?_setCell_other _ _ _ _ (by simp), World.cell?_setCell_other _ _ _ _ (by simp), World.cell?_setCell_other _ _ _ _ (by simp)]; exact y12
  refine wp_region_z (fun W => W.cell? ⟨hx, 0, none⟩ = some (.pointer (some ⟨hb, 0, none⟩)) ∧ W.cell? ⟨tx, 0, none⟩ = some (.int .i64 to) ∧ W.cell? ⟨gx, 0, none⟩ = some (.int .i64 tag) ∧ W.cell? ⟨rx, 0, none⟩ = some (.int .i64 refs) ∧ W.cell? ⟨wx, 0, none⟩ = some (.int .i64 raws) ∧ W.cell? ⟨hb, 12, none⟩ = some (.slice (some ⟨sb, off, none⟩) sl cap)) 11 (by kernel_rfl) ?_
  have hS : (((WQ.setCell ⟨hb, 15, none⟩ (.int .i64 (bd + (1 + (refs : Int) + (raws : Int))))).setCell ⟨hb, 0, none⟩ (.int .i64 (ob + 1))).setCell ⟨hb, 1, none⟩ (.int .i64 (wd + (1 + (refs : Int) + (raws : Int))))).drew.cell? ⟨hx, 0, none⟩ = some (.pointer (some ⟨hb, 0, none⟩)) ∧ (((WQ.setCell ⟨hb, 15, none⟩ (.int .i64 (bd + (1 + (refs : Int) + (raws : Int))))).setCell ⟨hb, 0, none⟩ (.int .i64 (ob + 1))).setCell ⟨hb, 1, none⟩ (.int .i64 (wd + (1 + (refs : Int) + (raws : Int))))).drew.cell? ⟨tx, 0, none⟩ = some (.int .i64 to) ∧ (((WQ.setCell ⟨hb, 15, none⟩ (.int .i64 (bd + (1 + (refs : Int) + (raws : Int))))).setCell ⟨hb, 0, none⟩ (.int .i64 (ob + 1))).setCell ⟨hb, 1, none⟩ (.int .i64 (wd + (1 + (refs : Int) + (raws : Int))))).drew.cell? ⟨gx, 0, none⟩ = some (.int .i64 tag) ∧ (((WQ.setCell ⟨hb, 15, none⟩ (.int .i64 (bd + (1 + (refs : Int) + (raws : Int))))).setCell ⟨hb, 0, none⟩ (.int .i64 (ob + 1))).setCell ⟨hb, 1, none⟩ (.int .i64 (wd + (1 + (refs : Int) + (raws : Int))))).drew.cell? ⟨rx, 0, none⟩ = some (.int .i64 refs) ∧ (((WQ.setCell ⟨hb, 15, none⟩ (.int .i64 (bd + (1 + (refs : Int) + (raws : Int))))).setCell ⟨hb, 0, none⟩ (.int .i64 (ob + 1))).setCell ⟨hb, 1, none⟩ (.int .i64 (wd + (1 + (refs : Int) + (raws : Int))))).drew.cell? ⟨wx, 0, none⟩ = some (.int .i64 raws) ∧ (((WQ.setCell ⟨hb, 15, none⟩ (.int .i64 (bd + (1 + (refs : Int) + (raws : Int))))).setCell ⟨hb, 0, none⟩ (.int .i64 (ob + 1))).setCell ⟨hb, 1, none⟩ (.int .i64 (wd + (1 + (refs : Int) + (raws : Int))))).drew.cell? ⟨hb, 12, none⟩ = some (.slice (some ⟨sb, off, none⟩) sl cap) := ⟨s1, s2, s3, s4, s5, s6⟩
  refine anyZ_marks (fuel := 3) (a' := ?a1) [true, true, true, true, true, true, true, true, true, false, false, false] rfl hS (fun _ _ d _ _ h => by cases d <;> exact h) (by kernel_rfl) (fun W hW => ?_) ?_
  rotate_left
  · obtain ⟨t1, t2, t3, t4, t5, t6⟩ := hW
    simp only [pick]
    repeat (go_big_quiet_step (fail))
    refine wpQuiet_nil ?_
    show _ = _
    with_reducible rfl
  refine anyZ_step 9 rfl (by kernel_rfl) rfl (fun K hK => ?_)
  go_simp
  go_at_call 52
  refine (A52'.out ((((WQ.setCell ⟨hb, 15, none⟩ (.int .i64 (bd + (1 + (refs : Int) + (raws : Int))))).setCell ⟨hb, 0, none⟩ (.int .i64 (ob + 1))).setCell ⟨hb, 1, none⟩ (.int .i64 (wd + (1 + (refs : Int) + (raws : Int)))))).drew ⟨rfl, rfl, rfl, rfl⟩).mono ?_
  rintro e W9 ⟨x, rfl, hn⟩
  obtain ⟨t1, t2, t3, t4, t5, t6, sb', off', sl', cap', hv, hto', ⟨y, t7⟩, t8⟩ := AN.out _ _ _ hn
  rw [hL3.out] at hv
  cases hv
  rw [hL3.out] at t6
  have HN := Lib.hid hn
  clear hn
  refine hK _ _ (.inr ⟨t1, t2, t3, t4, t5, t6⟩) ?_
  clear hK K hS s1 s2 s3 s4 s5 s6 y15 y0 y1 y12 yc1 yc2 yc3 yc4 yc5 yf15 yf0 yf1
  refine anyZ_step 10 rfl (by kernel_rfl) rfl (fun K hK => ?_)
  go_simp
  refine hK _ _ (.inr ⟨t1, t2, t3, t4, t5, t6⟩) ?_
  clear hK K
  refine anyZ_step 11 rfl (by kernel_rfl) rfl (fun K hK => ?_)
  go_simp
  refine hK _ _ (.inl (by kernel_rfl)) ?_
  clear hK K
  refine anyZ_done (by kernel_rfl) ?_ _
  go_end0
  exact ⟨rfl, x, sb, off, sl, cap, W9, hL3.out, HN.out, rfl, rfl, rfl, rfl⟩

set_option maxRecDepth 100000 in
set_option maxHeartbeats 2000000 in
theorem make_full {hb hx tx gx rx wx : Nat} {w : World} {L : Lay} {s : HS} (hr : HRep w hb L s) (hsl : s.slots.length ≤ 1000000) {to tag refs raws : Nat} (c1 : w.cell? ⟨hx, 0, none⟩ = some (.pointer (some ⟨hb, 0, none⟩))) (c_tx : w.cell? ⟨tx, 0, none⟩ = some (.int .i64 to)) (c_gx : w.cell? ⟨gx, 0, none⟩ = some (.int .i64 tag)) (c_rx : w.cell? ⟨rx, 0, none⟩ = some (.int .i64 refs)) (c_wx : w.cell? ⟨wx, 0, none⟩ = some (.int .i64 raws)) (hto : to < s.slots.length) (htag : tag < 65536) (hrf : refs ≤ 4000) (hrw : raws ≤ 4000) {bd room ob wd lv : Int} {sb off sl cap : Nat} (hb0 : 0 ≤ bd ∧ bd ≤ 1000000) (hro : 0 ≤ room ∧ room ≤ 65536) (hlv : 0 ≤ lv ∧ lv ≤ 65536) (hx0 : hx ≠ hb ∧ tx ≠ hb ∧ gx ≠ hb ∧ rx ≠ hb ∧ wx ≠ hb)
    (e15 : s.bound = bd) (e6 : s.room = room) (hnf : room < bd + (1 + (refs : Int) + (raws : Int))) {NL : World → Prop}
    (H39 : ∀ W, Eqw (w.alloc (.cells #[.int .i64 to] 3)) W → Calls Try.prog 39 #[.pointer (some ⟨hb, 0, none⟩)] W fun e W' => e = .returned (.int .i64 lv) ∧ NL W')
    (hNL : ∀ W, NL W → W.cell? ⟨hx, 0, none⟩ = some (.pointer (some ⟨hb, 0, none⟩)) ∧ W.cell? ⟨tx, 0, none⟩ = some (.int .i64 to) ∧ W.cell? ⟨gx, 0, none⟩ = some (.int .i64 tag) ∧ W.cell? ⟨rx, 0, none⟩ = some (.int .i64 refs) ∧ W.cell? ⟨wx, 0, none⟩ = some (.int .i64 raws) ∧
      W.cell? ⟨hb, 15, none⟩ = some (.int .i64 bd) ∧ W.cell? ⟨hb, 6, none⟩ = some (.int .i64 room) ∧ W.cell? ⟨hb, 0, none⟩ = some (.int .i64 ob) ∧ W.cell? ⟨hb, 1, none⟩ = some (.int .i64 wd) ∧ W.cell? ⟨hb, 12, none⟩ = some (.slice (some ⟨sb, off, none⟩) sl cap) ∧ ∀ k, W.frozen? ⟨hb, k, none⟩ = false) (hno : room < lv + (1 + (refs : Int) + (raws : Int))) :
    Calls Try.prog 49 #[.pointer (some ⟨hx, 0, none⟩), .pointer (some ⟨tx, 0, none⟩), .pointer (some ⟨gx, 0, none⟩), .pointer (some ⟨rx, 0, none⟩), .pointer (some ⟨wx, 0, none⟩)] w fun e w' => e = .panicked (trouble 11) ∧ ∃ W, NL W ∧ Eqw (W.setCell ⟨hb, 15, none⟩ (.int .i64 lv)) w' := by
  have HT := Lib.hid (there1 hr to hsl (in_slots1.2 ⟨by omega, by omega⟩))
  have hrA := hr.of_fr (fr_alloc1 w (.cells #[.int .i64 to] 3)) (fun _ _ h => h)
  have htg : (tag : Int) ≤ 65535 := by omega
  have hr4 : (refs : Int) ≤ 4000 := by omega
  have hw4 : (raws : Int) ≤ 4000 := by omega
  have c1 := alloc_cell c1 (.cells #[.int .i64 to] 3)
  have c_tx := alloc_cell c_tx (.cells #[.int .i64 to] 3)
  have c_gx := alloc_cell c_gx (.cells #[.int .i64 to] 3)
  have c_rx := alloc_cell c_rx (.cells #[.int .i64 to] 3)
  have c_wx := alloc_cell c_wx (.cells #[.int .i64 to] 3)
  have b15 := hrA.c15
  have b6 := hrA.c6
  rw [e15] at b15
  rw [e6] at b6
  have A39 := Lib.hid H39
  have ANL := Lib.hid hNL
  obtain ⟨e1, e2, e3, e4, e5⟩ := hx0
  obtain ⟨hb1, hb2⟩ := hb0
  obtain ⟨hl1, hl2⟩ := hlv
  clear hr hrA H39 hNL e15 e6 hsl hto
  go_enter Try.func49, Try.ntmps49
  go_wp2_with (first | (go_at_call 50; refine HT.out.mono ?_; rintro e w' ⟨rfl, rfl⟩) | (go_at_call 51; refine (fail_yes _ _).mono ?_; rintro e w' ⟨rfl, rfl⟩))
  go_quiet (fail)
  go_wp2
  refine wp_region_z (fun W => W.cell? ⟨hx, 0, none⟩ = some (.pointer (some ⟨hb, 0, none⟩))) 5 (by kernel_rfl) ?_
  have hS : ((w.alloc (.cells #[.int .i64 to] 3)).drewN nq).drew.cell? ⟨hx, 0, none⟩ = some (.pointer (some ⟨hb, 0, none⟩)) := c1
  refine anyZ_marks (fuel := 4) (a' := ?a0) [true, true, false, false, false, false] rfl hS (fun _ _ d _ _ h => by cases d <;> exact h) (by kernel_rfl) (fun W hW => ?_) ?_
  rotate_left
  · simp only [pick]
    repeat (go_big_quiet_step (fail))
    refine wpQuiet_nil ?_
    show _ = _
    with_reducible rfl
  refine anyZ_step 2 rfl (by kernel_rfl) rfl (fun K hK => ?_)
  go_simp
  go_at_call 39
  refine (A39.out ((w.alloc (.cells #[.int .i64 to] 3)).drewN nq).drew ⟨rfl, rfl, rfl, rfl⟩).mono ?_
  rintro e W5 ⟨rfl, hn⟩
  obtain ⟨t1, t2, t3, t4, t5, t15, t6, t0, t01, t12, tf⟩ := ANL.out _ hn
  have HNL := Lib.hid hn
  clear hn c1 c_tx c_gx c_rx c_wx b15 b6
  have tf15 := tf 15
  refine hK _ _ (.inr t1) ?_
  clear hK K hS
  refine anyZ_step 3 rfl (by kernel_rfl) rfl (fun K hK => ?_)
  go_simp
  refine hK _ _ (.inr t1) ?_
  clear hK K
  refine anyZ_step 4 rfl (by kernel_rfl) rfl (fun K hK => ?_)
  go_simp
  refine hK _ _ (.inr t1) ?_
  clear hK K
  refine anyZ_step 5 rfl (by kernel_rfl) rfl (fun K hK => ?_)
  go_simp
  refine hK _ _ (.inl (by kernel_rfl)) ?_
  clear hK K
  refine anyZ_done (by kernel_rfl) ?_ _
  obtain ⟨WP, hWP⟩ : ∃ W, W = W5.setCell ⟨hb, 15, none⟩ (.int .i64 lv) := ⟨_, rfl⟩
  have b15 : WP.cell? ⟨hb, 15, none⟩ = some (.int .i64 lv) := by rw [hWP]; exact World.cell?_setCell_same _ _ _ t15
  have b6 : WP.cell? ⟨hb, 6, none⟩ = some (.int .i64 room) := by rw [hWP, World.cell?_setCell_other _ _ _ _ (by simp)]; exact t6
  have z0 : WP.cell? ⟨hb, 0, none⟩ = some (.int .i64 ob) := by rw [hWP, World.cell?_setCell_other _ _ _ _ (by simp)]; exact t0
  have z1 : WP.cell? ⟨hb, 1, none⟩ = some (.int .i64 wd) := by rw [hWP, World.cell?_setCell_other _ _ _ _ (by simp)]; exact t01
  have z12 : WP.cell? ⟨hb, 12, none⟩ = some (.slice (some ⟨sb, off, none⟩) sl cap) := by rw [hWP, World.cell?_setCell_other _ _ _ _ (by simp)]; exact t12
  have c1 : WP.cell? ⟨hx, 0, none⟩ = some (.pointer (some ⟨hb, 0, none⟩)) := by rw [hWP, World.cell?_setCell_other _ _ _ _ (by simp)]; exact t1
  have c_tx : WP.cell? ⟨tx, 0, none⟩ = some (.int .i64 to) := by rw [hWP, World.cell?_setCell_other _ _ _ _ (by simp)]; exact t2
  have c_gx : WP.cell? ⟨gx, 0, none⟩ = some (.int .i64 tag) := by rw [hWP, World.cell?_setCell_other _ _ _ _ (by simp)]; exact t3
  have c_rx : WP.cell? ⟨rx, 0, none⟩ = some (.int .i64 refs) := by rw [hWP, World.cell?_setCell_other _ _ _ _ (by simp)]; exact t4
  have c_wx : WP.cell? ⟨wx, 0, none⟩ = some (.int .i64 raws) := by rw [hWP, World.cell?_setCell_other _ _ _ _ (by simp)]; exact t5
  have Fz := Lib.hid (show ∀ k, WP.frozen? ⟨hb, k, none⟩ = false by intro k; rw [hWP]; have := tf k; simpa using this)
  clear t1 t2 t3 t4 t5 t15 t6 t0 t01 t12 tf tf15
  have hdn : decide (lv + (1 + (refs : Int) + (raws : Int)) ≤ room) = false := by simp; omega
  have HP := Lib.hid hWP
  rw [← hWP]
  clear hWP
  go_wp2
  refine wp_region_z (fun W => W.cell? ⟨hx, 0, none⟩ = some (.pointer (some ⟨hb, 0, none⟩)) ∧ W.cell? ⟨hb, 15, none⟩ = some (.int .i64 lv) ∧ W.cell? ⟨hb, 6, none⟩ = some (.int .i64 room)) 12 (by kernel_rfl) ?_
  have hS : WP.drew.drew.cell? ⟨hx, 0, none⟩ = some (.pointer (some ⟨hb, 0, none⟩)) ∧ WP.drew.drew.cell? ⟨hb, 15, none⟩ = some (.int .i64 lv) ∧ WP.drew.drew.cell? ⟨hb, 6, none⟩ = some (.int .i64 room) := ⟨c1, b15, b6⟩
  refine anyZ_marks (fuel := 1) (a' := ?a1) [true, true, true, true, true, true, true, true, true, true, true, true, false] rfl hS (fun _ _ d _ _ h => by cases d <;> exact h) (by kernel_rfl) (fun W hW => ?_) ?_
  rotate_left
  · obtain ⟨s1, s2, s3⟩ := hW
    simp only [pick]
    repeat (go_big_quiet_step (fail))
    refine wpQuiet_nil ?_
    show _ = _
    with_reducible rfl
  refine anyZ_step 12 rfl (by kernel_rfl) rfl (fun K hK => ?_)
  go_simp
  go_at_call 51
  refine (fail_no _ _).mono ?_
  rintro e w' ⟨rfl, rfl⟩
  refine ⟨rfl, rfl, W5, HNL.out, ?_⟩
  rw [← HP.out]
  exact ⟨rfl, rfl, rfl, rfl⟩

set_option maxRecDepth 100000 in
set_option maxHeartbeats 2000000 in
theorem make_fit2 {hb hx tx gx rx wx : Nat} {w : World} {L : Lay} {s : HS} (hr : HRep w hb L s) (hsl : s.slots.length ≤ 1000000) {to tag refs raws : Nat} (c1 : w.cell? ⟨hx, 0, none⟩ = some (.pointer (some ⟨hb, 0, none⟩))) (c_tx : w.cell? ⟨tx, 0, none⟩ = some (.int .i64 to)) (c_gx : w.cell? ⟨gx, 0, none⟩ = some (.int .i64 tag)) (c_rx : w.cell? ⟨rx, 0, none⟩ = some (.int .i64 refs)) (c_wx : w.cell? ⟨wx, 0, none⟩ = some (.int .i64 raws)) (hto : to < s.slots.length) (htag : tag < 65536) (hrf : refs ≤ 4000) (hrw : raws ≤ 4000) {bd room ob wd lv : Int} {sb off sl cap : Nat} (hb0 : 0 ≤ bd ∧ bd ≤ 1000000) (hro : 0 ≤ room ∧ room ≤ 65536) (hlv : 0 ≤ lv ∧ lv ≤ 65536) (hx0 : hx ≠ hb ∧ tx ≠ hb ∧ gx ≠ hb ∧ rx ≠ hb ∧ wx ≠ hb)
    (e15 : s.bound = bd) (e6 : s.room = room) (hnf : room < bd + (1 + (refs : Int) + (raws : Int))) {NL : World → Prop}
    (H39 : ∀ W, Eqw (w.alloc (.cells #[.int .i64 to] 3)) W → Calls Try.prog 39 #[.pointer (some ⟨hb, 0, none⟩)] W fun e W' => e = .returned (.int .i64 lv) ∧ NL W')
    (hNL : ∀ W, NL W → W.cell? ⟨hx, 0, none⟩ = some (.pointer (some ⟨hb, 0, none⟩)) ∧ W.cell? ⟨tx, 0, none⟩ = some (.int .i64 to) ∧ W.cell? ⟨gx, 0, none⟩ = some (.int .i64 tag) ∧ W.cell? ⟨rx, 0, none⟩ = some (.int .i64 refs) ∧ W.cell? ⟨wx, 0, none⟩ = some (.int .i64 raws) ∧
      W.cell? ⟨hb, 15, none⟩ = some (.int .i64 bd) ∧ W.cell? ⟨hb, 6, none⟩ = some (.int .i64 room) ∧ W.cell? ⟨hb, 0, none⟩ = some (.int .i64 ob) ∧ W.cell? ⟨hb, 1, none⟩ = some (.int .i64 wd) ∧ W.cell? ⟨hb, 12, none⟩ = some (.slice (some ⟨sb, off, none⟩) sl cap) ∧ ∀ k, W.frozen? ⟨hb, k, none⟩ = false) (hyes : lv + (1 + (refs : Int) + (raws : Int)) ≤ room) (hob : 0 ≤ ob ∧ ob ≤ 1000000000000) (hwd : 0 ≤ wd ∧ wd ≤ 1000000000000) (hts : to < sl) (hsc : sl ≤ cap) {N : Int → Value → World → Prop} (hN : MadeX hb hx tx gx rx wx to tag refs raws N)
    (H52 : ∀ W5, NL W5 → ∀ W, Eqw (((((W5.setCell ⟨hb, 15, none⟩ (.int .i64 lv)).setCell ⟨hb, 15, none⟩ (.int .i64 (lv + (1 + (refs : Int) + (raws : Int))))).setCell ⟨hb, 0, none⟩ (.int .i64 (ob + 1))).setCell ⟨hb, 1, none⟩ (.int .i64 (wd + (1 + (refs : Int) + (raws : Int)))))) W →
      Calls Try.prog 52 #[.pointer (some ⟨hb, 0, none⟩), .int .i64 tag, .int .i64 refs, .int .i64 raws] W fun e W' => ∃ x, e = .returned (.int .i64 x) ∧ N x (.slice (some ⟨sb, off, none⟩) sl cap) W') :
    Calls Try.prog 49 #[.pointer (some ⟨hx, 0, none⟩), .pointer (some ⟨tx, 0, none⟩), .pointer (some ⟨gx, 0, none⟩), .pointer (some ⟨rx, 0, none⟩), .pointer (some ⟨wx, 0, none⟩)] w fun e w' => e = .returned (.tuple #[]) ∧ ∃ x sb' off' sl' cap' W, Value.slice (some ⟨sb, off, none⟩) sl cap = .slice (some ⟨sb', off', none⟩) sl' cap' ∧ N x (.slice (some ⟨sb, off, none⟩) sl cap) W ∧ Eqw (W.setCell ⟨sb', off' + to, none⟩ (.int .i64 x)) w' := by
  have AN := Lib.hid hN.ok
  have A52x := Lib.hid H52
  clear hN H52
  have HT := Lib.hid (there1 hr to hsl (in_slots1.2 ⟨by omega, by omega⟩))
  have hrA := hr.of_fr (fr_alloc1 w (.cells #[.int .i64 to] 3)) (fun _ _ h => h)
  have htg : (tag : Int) ≤ 65535 := by omega
  have hr4 : (refs : Int) ≤ 4000 := by omega
  have hw4 : (raws : Int) ≤ 4000 := by omega
  have c1 := alloc_cell c1 (.cells #[.int .i64 to] 3)
  have c_tx := alloc_cell c_tx (.cells #[.int .i64 to] 3)
  have c_gx := alloc_cell c_gx (.cells #[.int .i64 to] 3)
  have c_rx := alloc_cell c_rx (.cells #[.int .i64 to] 3)
  have c_wx := alloc_cell c_wx (.cells #[.int .i64 to] 3)
  have b15 := hrA.c15
  have b6 := hrA.c6
  rw [e15] at b15
  rw [e6] at b6
  have A39 := Lib.hid H39
  have ANL := Lib.hid hNL
  obtain ⟨e1, e2, e3, e4, e5⟩ := hx0
  obtain ⟨hb1, hb2⟩ := hb0
  obtain ⟨hl1, hl2⟩ := hlv
  clear hr hrA H39 hNL e15 e6 hsl hto
  go_enter Try.func49, Try.ntmps49
  go_wp2_with (first | (go_at_call 50; refine HT.out.mono ?_; rintro e w' ⟨rfl, rfl⟩) | (go_at_call 51; refine (fail_yes _ _).mono ?_; rintro e w' ⟨rfl, rfl⟩))
  go_quiet (fail)
  go_wp2
  refine wp_region_z (fun W => W.cell? ⟨hx, 0, none⟩ = some (.pointer (some ⟨hb, 0, none⟩))) 5 (by kernel_rfl) ?_
  have hS : ((w.alloc (.cells #[.int .i64 to] 3)).drewN nq).drew.cell? ⟨hx, 0, none⟩ = some (.pointer (some ⟨hb, 0, none⟩)) := c1
  refine anyZ_marks (fuel := 4) (a' := ?a0) [true, true, false, false, false, false] rfl hS (fun _ _ d _ _ h => by cases d <;> exact h) (by kernel_rfl) (fun W hW => ?_) ?_
  rotate_left
  · simp only [pick]
    repeat (go_big_quiet_step (fail))
    refine wpQuiet_nil ?_
    show _ = _
    with_reducible rfl
  refine anyZ_step 2 rfl (by kernel_rfl) rfl (fun K hK => ?_)
  go_simp
  go_at_call 39
  refine (A39.out ((w.alloc (.cells #[.int .i64 to] 3)).drewN nq).drew ⟨rfl, rfl, rfl, rfl⟩).mono ?_
  rintro e W5 ⟨rfl, hn⟩
  obtain ⟨t1, t2, t3, t4, t5, t15, t6, t0, t01, t12, tf⟩ := ANL.out _ hn
  have HNL := Lib.hid hn
  clear hn c1 c_tx c_gx c_rx c_wx b15 b6
  have tf15 := tf 15
  refine hK _ _ (.inr t1) ?_
  clear hK K hS
  refine anyZ_step 3 rfl (by kernel_rfl) rfl (fun K hK => ?_)
  go_simp
  refine hK _ _ (.inr t1) ?_
  clear hK K
  refine anyZ_step 4 rfl (by kernel_rfl) rfl (fun K hK => ?_)
  go_simp
  refine hK _ _ (.inr t1) ?_
  clear hK K
  refine anyZ_step 5 rfl (by kernel_rfl) rfl (fun K hK => ?_)
  go_simp
  refine hK _ _ (.inl (by kernel_rfl)) ?_
  clear hK K
  refine anyZ_done (by kernel_rfl) ?_ _
  obtain ⟨WP, hWP⟩ : ∃ W, W = W5.setCell ⟨hb, 15, none⟩ (.int .i64 lv) := ⟨_, rfl⟩
  have b15 : WP.cell? ⟨hb, 15, none⟩ = some (.int .i64 lv) := by rw [hWP]; exact World.cell?_setCell_same _ _ _ t15
  have b6 : WP.cell? ⟨hb, 6, none⟩ = some (.int .i64 room) := by rw [hWP, World.cell?_setCell_other _ _ _ _ (by simp)]; exact t6
  have z0 : WP.cell? ⟨hb, 0, none⟩ = some (.int .i64 ob) := by rw [hWP, World.cell?_setCell_other _ _ _ _ (by simp)]; exact t0
  have z1 : WP.cell? ⟨hb, 1, none⟩ = some (.int .i64 wd) := by rw [hWP, World.cell?_setCell_other _ _ _ _ (by simp)]; exact t01
  have z12 : WP.cell? ⟨hb, 12, none⟩ = some (.slice (some ⟨sb, off, none⟩) sl cap) := by rw [hWP, World.cell?_setCell_other _ _ _ _ (by simp)]; exact t12
  have c1 : WP.cell? ⟨hx, 0, none⟩ = some (.pointer (some ⟨hb, 0, none⟩)) := by rw [hWP, World.cell?_setCell_other _ _ _ _ (by simp)]; exact t1
  have c_tx : WP.cell? ⟨tx, 0, none⟩ = some (.int .i64 to) := by rw [hWP, World.cell?_setCell_other _ _ _ _ (by simp)]; exact t2
  have c_gx : WP.cell? ⟨gx, 0, none⟩ = some (.int .i64 tag) := by rw [hWP, World.cell?_setCell_other _ _ _ _ (by simp)]; exact t3
  have c_rx : WP.cell? ⟨rx, 0, none⟩ = some (.int .i64 refs) := by rw [hWP, World.cell?_setCell_other _ _ _ _ (by simp)]; exact t4
  have c_wx : WP.cell? ⟨wx, 0, none⟩ = some (.int .i64 raws) := by rw [hWP, World.cell?_setCell_other _ _ _ _ (by simp)]; exact t5
  have Fz := Lib.hid (show ∀ k, WP.frozen? ⟨hb, k, none⟩ = false by intro k; rw [hWP]; have := tf k; simpa using this)
  clear t1 t2 t3 t4 t5 t15 t6 t0 t01 t12 tf tf15
  have A52 := Lib.hid (fun W => A52x.out W5 HNL.out W)
  rw [← hWP] at A52
  rw [← hWP]
  clear hWP
  clear hnf
  obtain ⟨ho1, ho2⟩ := hob
  obtain ⟨hw1, hw2⟩ := hwd
  go_wp2
  go_quiet ((go_at_call 51; exact quiet_same (fail_yes _ _)))
  obtain ⟨WQ, hWQ⟩ : ∃ W, W = (WP).drewN nq := ⟨_, rfl⟩
  have y15 : WQ.cell? ⟨hb, 15, none⟩ = some (.int .i64 lv) := by rw [hWQ]; exact b15
  have y0 : WQ.cell? ⟨hb, 0, none⟩ = some (.int .i64 ob) := by rw [hWQ]; exact z0
  have y1 : WQ.cell? ⟨hb, 1, none⟩ = some (.int .i64 wd) := by rw [hWQ]; exact z1
  have y12 : WQ.cell? ⟨hb, 12, none⟩ = some (.slice (some ⟨sb, off, none⟩) sl cap) := by rw [hWQ]; exact z12
  have yc1 : WQ.cell? ⟨hx, 0, none⟩ = some (.pointer (some ⟨hb, 0, none⟩)) := by rw [hWQ]; exact c1
  have yc2 : WQ.cell? ⟨tx, 0, none⟩ = some (.int .i64 to) := by rw [hWQ]; exact c_tx
  have yc3 : WQ.cell? ⟨gx, 0, none⟩ = some (.int .i64 tag) := by rw [hWQ]; exact c_gx
  have yc4 : WQ.cell? ⟨rx, 0, none⟩ = some (.int .i64 refs) := by rw [hWQ]; exact c_rx
  have yc5 : WQ.cell? ⟨wx, 0, none⟩ = some (.int .i64 raws) := by rw [hWQ]; exact c_wx
  have yf : ∀ k, WQ.frozen? ⟨hb, k, none⟩ = false := by rw [hWQ]; exact Fz.out
  have yf15 := yf 15
  have yf0 := yf 0
  have yf1 := yf 1
  have A52' := Lib.hid (fun W (hW : Eqw (((WQ.setCell ⟨hb, 15, none⟩ (.int .i64 (lv + (1 + (refs : Int) + (raws : Int))))).setCell ⟨hb, 0, none⟩ (.int .i64 (ob + 1))).setCell ⟨hb, 1, none⟩ (.int .i64 (wd + (1 + (refs : Int) + (raws : Int))))) W) => A52.out W (by rw [hWQ] at hW; exact hW))
  rw [← hWQ]
  clear hWQ A52 b15 z0 z1 z12 c1 c_tx c_gx c_rx c_wx yf
  go_wp2
  have s1 : (((WQ.setCell ⟨hb, 15, none⟩ (.int .i64 (lv + (1 + (refs : Int) + (raws : Int))))).setCell ⟨hb, 0, none⟩ (.int .i64 (ob + 1))).setCell ⟨hb, 1, none⟩ (.int .i64 (wd + (1 + (refs : Int) + (raws : Int))))).cell? ⟨hx, 0, none⟩ = some (.pointer (some ⟨hb, 0, none⟩)) := (cell_of_heap (cells3 e1)).trans yc1
  have s2 : (((WQ.setCell ⟨hb, 15, none⟩ (.int .i64 (lv + (1 + (refs : Int) + (raws : Int))))).setCell ⟨hb, 0, none⟩ (.int .i64 (ob + 1))).setCell ⟨hb, 1, none⟩ (.int .i64 (wd + (1 + (refs : Int) + (raws : Int))))).cell? ⟨tx, 0, none⟩ = some (.int .i64 to) := (cell_of_heap (cells3 e2)).trans yc2
  have s3 : (((WQ.setCell ⟨hb, 15, none⟩ (.int .i64 (lv + (1 + (refs : Int) + (raws : Int))))).setCell ⟨hb, 0, none⟩ (.int .i64 (ob + 1))).setCell ⟨hb, 1, none⟩ (.int .i64 (wd + (1 + (refs : Int) + (raws : Int))))).cell? ⟨gx, 0, none⟩ = some (.int .i64 tag) := (cell_of_heap (cells3 e3)).trans yc3
  have s4 : (((WQ.setCell ⟨hb, 15, none⟩ (.int .i64 (lv + (1 + (refs : Int) + (raws : Int))))).setCell ⟨hb, 0, none⟩ (.int .i64 (ob + 1))).setCell ⟨hb, 1, none⟩ (.int .i64 (wd + (1 + (refs : Int) + (raws : Int))))).cell? ⟨rx, 0, none⟩ = some (.int .i64 refs) := (cell_of_heap (cells3 e4)).trans yc4
  have s5 : (((WQ.setCell ⟨hb, 15, none⟩ (.int .i64 (lv + (1 + (refs : Int) + (raws : Int))))).setCell ⟨hb, 0, none⟩ (.int .i64 (ob + 1))).setCell ⟨hb, 1, none⟩ (.int .i64 (wd + (1 + (refs : Int) + (raws : Int))))).cell? ⟨wx, 0, none⟩ = some (.int .i64 raws) := (cell_of_heap (cells3 e5)).trans yc5
  have s6 : (((WQ.setCell ⟨hb, 15, none⟩ (.int .i64 (lv + (1 + (refs : Int) + (raws : Int))))).setCell ⟨hb, 0, none⟩ (.int .i64 (ob + 1))).setCell ⟨hb, 1, none⟩ (.int .i64 (wd + (1 + (refs : Int) + (raws : Int))))).cell? ⟨hb, 12, none⟩ = some (.slice (some ⟨sb, off, none⟩) sl cap) := by
    rw [World.cell?_setCell_other _ _ _ _ (by simp), World.cell?_setCell_other _ _ _ _ (by simp), World.cell?_setCell_other _ _ _ _ (by simp)]; exact y12
  refine wp_region_z (fun W => W.cell? ⟨hx, 0, none⟩ = some (.pointer (some ⟨hb, 0, none⟩)) ∧ W.cell? ⟨tx, 0, none⟩ = some (.int .i64 to) ∧ W.cell? ⟨gx, 0, none⟩ = some (.int .i64 tag) ∧ W.cell? ⟨rx, 0, none⟩ = some (.int .i64 refs) ∧ W.cell? ⟨wx, 0, none⟩ = some (.int .i64 raws) ∧ W.cell? ⟨hb, 12, none⟩ = some (.slice (some ⟨sb, off, none⟩) sl cap)) 11 (by kernel_rfl) ?_
  have hS : (((WQ.setCell ⟨hb, 15, none⟩ (.int .i64 (lv + (1 + (refs : Int) + (raws : Int))))).setCell ⟨hb, 0, none⟩ (.int .i64 (ob + 1))).setCell ⟨hb, 1, none⟩ (.int .i64 (wd + (1 + (refs : Int) + (raws : Int))))).drew.cell? ⟨hx, 0, none⟩ = some (.pointer (some ⟨hb, 0, none⟩)) ∧ (((WQ.setCell ⟨hb, 15, none⟩ (.int .i64 (lv + (1 + (refs : Int) + (raws : Int))))).setCell ⟨hb, 0, none⟩ (.int .i64 (ob + 1))).setCell ⟨hb, 1, none⟩ (.int .i64 (wd + (1 + (refs : Int) + (raws : Int))))).drew.cell? ⟨tx, 0, none⟩ = some (.int .i64 to) ∧ (((WQ.setCell ⟨hb, 15, none⟩ (.int .i64 (lv + (1 + (refs : Int) + (raws : Int))))).setCell ⟨hb, 0, none⟩ (.int .i64 (ob + 1))).setCell ⟨hb, 1, none⟩ (.int .i64 (wd + (1 + (refs : Int) + (raws : Int))))).drew.cell? ⟨gx, 0, none⟩ = some (.int .i64 tag) ∧ (((WQ.setCell ⟨hb, 15, none⟩ (.int .i64 (lv + (1 + (refs : Int) + (raws : Int))))).setCell ⟨hb, 0, none⟩ (.int .i64 (ob + 1))).setCell ⟨hb, 1, none⟩ (.int .i64 (wd + (1 + (refs : Int) + (raws : Int))))).drew.cell? ⟨rx, 0, none⟩ = some (.int .i64 refs) ∧ (((WQ.setCell ⟨hb, 15, none⟩ (.int .i64 (lv + (1 + (refs : Int) + (raws : Int))))).setCell ⟨hb, 0, none⟩ (.int .i64 (ob + 1))).setCell ⟨hb, 1, none⟩ (.int .i64 (wd + (1 + (refs : Int) + (raws : Int))))).drew.cell? ⟨wx, 0, none⟩ = some (.int .i64 raws) ∧ (((WQ.setCell ⟨hb, 15, none⟩ (.int .i64 (lv + (1 + (refs : Int) + (raws : Int))))).setCell ⟨hb, 0, none⟩ (.int .i64 (ob + 1))).setCell ⟨hb, 1, none⟩ (.int .i64 (wd + (1 + (refs : Int) + (raws : Int))))).drew.cell? ⟨hb, 12, none⟩ = some (.slice (some ⟨sb, off, none⟩) sl cap) := ⟨s1, s2, s3, s4, s5, s6⟩
  refine anyZ_marks (fuel := 3) (a' := ?a1) [true, true, true, true, true, true, true, true, true, false, false, false] rfl hS (fun _ _ d _ _ h => by cases d <;> exact h) (by kernel_rfl) (fun W hW => ?_) ?_
  rotate_left
  · obtain ⟨t1, t2, t3, t4, t5, t6⟩ := hW
    simp only [pick]
    repeat (go_big_quiet_step (fail))
    refine wpQuiet_nil ?_
    show _ = _
    with_reducible rfl
  refine anyZ_step 9 rfl (by kernel_rfl) rfl (fun K hK => ?_)
  go_simp
  go_at_call 52
  refine (A52'.out ((((WQ.setCell ⟨hb, 15, none⟩ (.int .i64 (lv + (1 + (refs : Int) + (raws : Int))))).setCell ⟨hb, 0, none⟩ (.int .i64 (ob + 1))).setCell ⟨hb, 1, none⟩ (.int .i64 (wd + (1 + (refs : Int) + (raws : Int)))))).drew ⟨rfl, rfl, rfl, rfl⟩).mono ?_
  rintro e W9 ⟨x, rfl, hn⟩
  obtain ⟨t1, t2, t3, t4, t5, t6, sb', off', sl', cap', hv, hto', ⟨y, t7⟩, t8⟩ := AN.out _ _ _ hn
  cases hv
  have HN := Lib.hid hn
  clear hn
  refine hK _ _ (.inr ⟨t1, t2, t3, t4, t5, t6⟩) ?_
  clear hK K hS s1 s2 s3 s4 s5 s6 y15 y0 y1 y12 yc1 yc2 yc3 yc4 yc5 yf15 yf0 yf1
  refine anyZ_step 10 rfl (by kernel_rfl) rfl (fun K hK => ?_)
  go_simp
  refine hK _ _ (.inr ⟨t1, t2, t3, t4, t5, t6⟩) ?_
  clear hK K
  refine anyZ_step 11 rfl (by kernel_rfl) rfl (fun K hK => ?_)
  go_simp
  refine hK _ _ (.inl (by kernel_rfl)) ?_
  clear hK K
  refine anyZ_done (by kernel_rfl) ?_ _
  go_end0
  exact ⟨rfl, x, sb, off, sl, cap, W9, rfl, HN.out, rfl, rfl, rfl, rfl⟩

end Go.Proofs.Ythjokcjdphempaa
