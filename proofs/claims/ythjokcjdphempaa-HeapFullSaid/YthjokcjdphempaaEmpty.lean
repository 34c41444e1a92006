/- The walk through (*Heap).emptied: the code. -/
import Derived.Test.YthjokcjdphempaaMove
namespace Go.Proofs.Ythjokcjdphempaa
open Go.RowKit Hp Go.Shelf

/-- The world behind the two boxes. -/
def boxed (hb a : Nat) (w : World) : World := (w.alloc (.cells #[.pointer (some ⟨hb, 0, none⟩)] 23)).alloc (.cells #[.int .i64 a] 3)

theorem boxed_old {hb a : Nat} {w : World} {k : Nat} (hk : k < w.heap.size) : (boxed hb a w).heap[k]? = w.heap[k]? := by
  unfold boxed
  rw [Below.heap_alloc _ _ _ (by simp; omega), Below.heap_alloc _ _ _ hk]

set_option maxRecDepth 100000 in
set_option maxHeartbeats 2000000 in
theorem emptied_core {hb now a ln ncap la acap : Nat} {na aa : Option Addr} {w : World} {Gr : World → Value → Prop} {M : World → Prop} {R : Int → World → Prop}
    (H87 : ∀ W : World, W.heap = (boxed hb a w).heap → W.os = w.os → W.tape = w.tape → W.output = w.output → Calls Try.prog 87 #[.slice na ln ncap, .int .i64 la] W fun e w' => ∃ v', e = .returned v' ∧ Gr w' v')
    (hGr : ∀ w1 v', Gr w1 v' → (∃ a' c', v' = .slice a' ln c') ∧ (∀ k, k = hb ∨ w.heap.size ≤ k ∧ k < w.heap.size + 2 → w1.heap[k]? = (boxed hb a w).heap[k]?) ∧ w.heap.size + 2 ≤ w1.heap.size)
    (H41 : ∀ w1 v', Gr w1 v' → ∀ W : World, W.heap = (w1.setCell ⟨hb, 8 + now, none⟩ v').heap → W.os = w1.os → W.tape = w1.tape → W.output = w1.output → Calls Try.prog 41 #[.pointer (some ⟨hb, 0, none⟩), .func (.func 88) #[] #[.pointer (some ⟨w.heap.size + 1, 0, none⟩), .pointer (some ⟨w.heap.size, 0, none⟩)]] W fun e w' => ∃ lv, e = .returned lv ∧ M w')
    (hM : ∀ w2, M w2 → w2.cell? ⟨w.heap.size, 0, none⟩ = some (.pointer (some ⟨hb, 0, none⟩)) ∧ w2.cell? ⟨w.heap.size + 1, 0, none⟩ = some (.int .i64 a) ∧ w2.cell? ⟨hb, 11, none⟩ = some (.int .i64 now) ∧
      (∃ l2 c2 b2, ln ≤ l2 ∧ l2 ≤ 1000000000000 ∧ w2.cell? ⟨hb, 8 + now, none⟩ = some (.slice b2 l2 c2) ∧ ∃ l3 c3 b3, l3 ≤ c3 ∧ c3 ≤ 9223372036854775807 ∧ w2.cell? ⟨hb, 8 + a, none⟩ = some (.slice b3 l3 c3) ∧ w2.frozen? ⟨hb, 8 + a, none⟩ = false ∧
        ∀ n, R ((l2 : Int) - ln) ((w2.setCell ⟨hb, 8 + a, none⟩ (.slice b3 0 c3)).drewN n)))
    (hnow : now < 2) (ha : a < 3) (hna : a ≠ now) (hln : ln ≤ 1000000000000) (hlt : hb < w.heap.size)
    (d1 : w.cell? ⟨hb, 11, none⟩ = some (.int .i64 now)) (d2 : w.cell? ⟨hb, 8 + now, none⟩ = some (.slice na ln ncap)) (d3 : w.cell? ⟨hb, 8 + a, none⟩ = some (.slice aa la acap)) (f1 : ∀ k, w.frozen? ⟨hb, k, none⟩ = false) :
    Calls Try.prog 85 #[.pointer (some ⟨hb, 0, none⟩), .int .i64 a] w fun e w' => ∃ r : Int, e = .returned (.int .i64 r) ∧ R r w' := by
  have A87 := Lib.hid H87
  have AGr := Lib.hid hGr
  have A41 := Lib.hid H41
  have AM := Lib.hid hM
  have n1 : (0 : Int) ≤ (now : Int) := by omega
  have n2 : (now : Int) < 3 := by omega
  have m1 : (0 : Int) ≤ (a : Int) := by omega
  have m2 : (a : Int) < 3 := by omega
  obtain ⟨wB, hwB⟩ : ∃ wB, wB = boxed hb a w := ⟨_, rfl⟩
  have b0 : wB.cell? ⟨w.heap.size, 0, none⟩ = some (.pointer (some ⟨hb, 0, none⟩)) := by
    have : wB.heap[w.heap.size]? = some (.cells #[.pointer (some ⟨hb, 0, none⟩)] 23) := by
      rw [hwB]; unfold boxed; rw [Below.heap_alloc _ _ _ (by simp)]; exact World.alloc_heap_new _ _
    simp [World.cell?, this]
  have b1 : wB.cell? ⟨w.heap.size + 1, 0, none⟩ = some (.int .i64 a) := by
    have : wB.heap[w.heap.size + 1]? = some (.cells #[.int .i64 a] 3) := by
      rw [hwB]; unfold boxed; have := World.alloc_heap_new (w.alloc (.cells #[.pointer (some ⟨hb, 0, none⟩)] 23)) (.cells #[.int .i64 a] 3); rwa [World.size_alloc] at this
    simp [World.cell?, this]
  have hB : wB.heap[hb]? = w.heap[hb]? := by rw [hwB]; exact boxed_old hlt
  have e1 : wB.cell? ⟨hb, 11, none⟩ = some (.int .i64 now) := (cell_of_heap hB).trans d1
  have e2 : wB.cell? ⟨hb, 8 + now, none⟩ = some (.slice na ln ncap) := (cell_of_heap hB).trans d2
  have e3 : wB.cell? ⟨hb, 8 + a, none⟩ = some (.slice aa la acap) := (cell_of_heap hB).trans d3
  have F1 := Lib.hid f1
  have HW := Lib.hid hwB
  clear H87 hGr H41 hM d1 d2 d3 f1 hwB hB
  go_enter Try.func85, Try.ntmps85
  go_wp2
  change Code.wp _ _ _ _ (boxed hb a w)
  rw [← HW.out]
  go_quiet (fail)
  go_wp2
  refine wp_region_z (fun W => W.cell? ⟨w.heap.size, 0, none⟩ = some (.pointer (some ⟨hb, 0, none⟩)) ∧ W.cell? ⟨w.heap.size + 1, 0, none⟩ = some (.int .i64 a) ∧ W.cell? ⟨hb, 11, none⟩ = some (.int .i64 now) ∧ W.cell? ⟨hb, 8 + now, none⟩ = some (.slice na ln ncap) ∧ W.cell? ⟨hb, 8 + a, none⟩ = some (.slice aa la acap)) 25 (by kernel_rfl) ?_
  have hS : ((wB.drewN nq).drew).cell? ⟨w.heap.size, 0, none⟩ = some (.pointer (some ⟨hb, 0, none⟩)) ∧ ((wB.drewN nq).drew).cell? ⟨w.heap.size + 1, 0, none⟩ = some (.int .i64 a) ∧ ((wB.drewN nq).drew).cell? ⟨hb, 11, none⟩ = some (.int .i64 now) ∧ ((wB.drewN nq).drew).cell? ⟨hb, 8 + now, none⟩ = some (.slice na ln ncap) ∧ ((wB.drewN nq).drew).cell? ⟨hb, 8 + a, none⟩ = some (.slice aa la acap) := ⟨b0, b1, e1, e2, e3⟩
  refine anyZ_marks (fuel := 4) (a' := ?a1) [true, true, true, true, true, true, true, true, true, true, true, true, true, true, true, true, true, true, true, true, false, false, true, true, false, false] rfl hS (fun _ _ d _ _ h => by cases d <;> exact h) (by kernel_rfl) (fun W hW => ?_) ?_
  rotate_left
  · obtain ⟨s1, s2, s3, s4, s5⟩ := hW
    simp only [pick]
    repeat (go_big_quiet_step (fail))
    refine wpQuiet_nil ?_
    show _ = _
    with_reducible rfl
  refine anyZ_step 20 rfl (by kernel_rfl) rfl (fun K hK => ?_)
  go_simp
  refine hK _ _ (.inr hS) ?_
  clear hK K
  refine anyZ_step 21 rfl (by kernel_rfl) rfl (fun K hK => ?_)
  go_simp
  go_at_call 87
  refine (A87.out _ (by rw [← HW.out]; rfl) (by show wB.os = w.os; rw [HW.out]; rfl) (by show wB.tape = w.tape; rw [HW.out]; rfl) (by show wB.output = w.output; rw [HW.out]; rfl)).mono ?_
  rintro e w1 ⟨v', rfl, hgr⟩
  obtain ⟨⟨a', c', rfl⟩, hk, hsz⟩ := AGr.out w1 v' hgr
  rw [← HW.out] at hk
  have k0 := (cell_of_heap (a := ⟨w.heap.size, 0, none⟩) (hk _ (.inr ⟨Nat.le_refl _, by show w.heap.size < w.heap.size + 2; omega⟩))).trans b0
  have k1 := (cell_of_heap (a := ⟨w.heap.size + 1, 0, none⟩) (hk _ (.inr ⟨by show w.heap.size ≤ w.heap.size + 1; omega, by show w.heap.size + 1 < w.heap.size + 2; omega⟩))).trans b1
  have k2 := (cell_of_heap (a := ⟨hb, 11, none⟩) (hk _ (.inl rfl))).trans e1
  have k3 := (cell_of_heap (a := ⟨hb, 8 + now, none⟩) (hk _ (.inl rfl))).trans e2
  have k4 := (cell_of_heap (a := ⟨hb, 8 + a, none⟩) (hk _ (.inl rfl))).trans e3
  have kf : w1.frozen? ⟨hb, 8 + now, none⟩ = false := by
    rw [frozen_of_heap (a := ⟨hb, 8 + now, none⟩) (hk _ (.inl rfl)), HW.out, frozen_of_heap (a := ⟨hb, 8 + now, none⟩) (boxed_old hlt)]
    exact F1.out _
  refine hK _ _ (.inr ⟨k0, k1, k2, k3, k4⟩) ?_
  clear hK K hS b0 b1 e1 e2 e3 hk
  refine anyZ_step 24 rfl (by kernel_rfl) rfl (fun K hK => ?_)
  go_simp
  refine hK _ _ (.inr ⟨k0, k1, k2, k3, k4⟩) ?_
  clear hK K
  refine anyZ_step 25 rfl (by kernel_rfl) rfl (fun K hK => ?_)
  go_simp
  refine hK _ _ (.inl (by kernel_rfl)) ?_
  clear hK K
  refine anyZ_done (by kernel_rfl) ?_ _
  have hbk : hb ≠ w.heap.size := by omega
  have hbk1 : hb ≠ w.heap.size + 1 := by omega
  obtain ⟨X, hX⟩ : ∃ X, X = w1.setCell ⟨hb, 8 + now, none⟩ (.slice a' ln c') := ⟨_, rfl⟩
  have x0 : X.cell? ⟨w.heap.size, 0, none⟩ = some (.pointer (some ⟨hb, 0, none⟩)) := by rw [hX]; exact (cell_of_heap (setCell_other _ _ _ _ (Ne.symm hbk))).trans k0
  have x1 : X.cell? ⟨w.heap.size + 1, 0, none⟩ = some (.int .i64 a) := by rw [hX]; exact (cell_of_heap (setCell_other _ _ _ _ (Ne.symm hbk1))).trans k1
  rw [← hX]
  have HX := Lib.hid hX
  have HG := Lib.hid hgr
  clear hX hgr k0 k1 k2 k3 k4 kf hsz hbk hbk1
  go_wp2_with (go_at_call 41; refine (A41.out w1 _ HG.out X (by rw [HX.out]) (by rw [HX.out]; rfl) (by rw [HX.out]; rfl) (by rw [HX.out]; rfl)).mono ?_; rintro e w2 ⟨lv, rfl, hm⟩)
  obtain ⟨y0, y1, y2, l2, c2, b2, hl2, hl3, y3, l3, c3, b3, hl4, hc3, y4, y5, hR⟩ := AM.out w2 hm
  have HR := Lib.hid hR
  clear hR hm x0 x1
  refine wp_region_z (fun W => W.heap = w2.heap) 12 (by kernel_rfl) ?_
  have hS : (w2.drew).heap = w2.heap := rfl
  refine anyZ_marks (fuel := 1) (a' := ?a2) [true, true, true, true, true, true, true, true, true, true, true, true, false] rfl hS (fun _ _ d _ _ h => by cases d <;> exact h) (by kernel_rfl) (fun W hW => ?_) ?_
  rotate_left
  · have s1 : W.cell? ⟨w.heap.size, 0, none⟩ = _ := (cell_of_heap (by rw [hW])).trans y0
    have s2 : W.cell? ⟨w.heap.size + 1, 0, none⟩ = _ := (cell_of_heap (by rw [hW])).trans y1
    have s3 : W.cell? ⟨hb, 8 + a, none⟩ = _ := (cell_of_heap (by rw [hW])).trans y4
    simp only [pick]
    repeat (go_big_quiet_step (fail))
    refine wpQuiet_nil ?_
    show _ = _
    with_reducible rfl
  refine anyZ_step 12 rfl (by kernel_rfl) rfl (fun K hK => ?_)
  go_simp
  refine hK _ _ (.inl (by kernel_rfl)) ?_
  clear hK K hS
  refine anyZ_done (by kernel_rfl) ?_ _
  have hbk : hb ≠ w.heap.size := by omega
  obtain ⟨Y, hY⟩ : ∃ Y, Y = (w2.setCell ⟨hb, 8 + a, none⟩ (.slice b3 0 c3)).drew := ⟨_, rfl⟩
  have z0 : Y.cell? ⟨w.heap.size, 0, none⟩ = some (.pointer (some ⟨hb, 0, none⟩)) := by rw [hY]; exact (World.cell?_setCell_other w2 _ _ _ (by intro e; injection e with e1 _; exact hbk e1)).trans y0
  have z1 : Y.cell? ⟨hb, 11, none⟩ = some (.int .i64 now) := by
    rw [hY]; exact (World.cell?_setCell_other w2 _ _ _ (by intro e; injection e with _ e2; omega)).trans y2
  have z2 : Y.cell? ⟨hb, 8 + now, none⟩ = some (.slice b2 l2 c2) := by
    rw [hY]; exact (World.cell?_setCell_other w2 _ _ _ (by intro e; injection e with _ e2; omega)).trans y3
  rw [← hY]
  have HY := Lib.hid hY
  clear hY y0 y1 y2 y3 y4 y5 hbk
  go_wp2
  go_quiet (fail)
  go_wp2
  go_ret
  refine ⟨(l2 : Int) - ln, by simp, ?_⟩
  rw [HY.out, World.drewN_drew]
  exact HR.out _
end Go.Proofs.Ythjokcjdphempaa
