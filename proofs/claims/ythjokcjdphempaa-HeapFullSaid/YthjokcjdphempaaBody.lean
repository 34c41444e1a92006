/- One round of (*Heap).walk. -/
import Derived.Test.YthjokcjdphempaaIter
import Derived.Test.YthjokcjdphempaaMap
namespace Go.Proofs.Ythjokcjdphempaa
open Go.RowKit Hp

attribute [local go_sem] Oper.semAt_some

/-- The body of the loop in (*Heap).walk. -/
noncomputable def walkBody : Code :=
  match Try.f41.body with
  | some (.seq _ (.seq _ (.seq _ (.seq (.seq _ (.block _ (.rangeFunc _ _ _ b))) _)))) => b
  | _ => .skip

theorem round_region_z {P : Program} {ops : Array Oper} {Q : Exit → Act → World → Prop} {r n : Nat} (S : World → Prop) (z : Nat) {id : Nat} {a : Act} {w : World} (hm : P.follows .mixedOrders = true) (hnd : (ops.all fun o => !(o.op matches .defer _)) = true) (hout : ¬ LetsOut Q)
    (h : AnyZ P .any ops Q S z ops.size (Array.replicate ops.size false) a w.drew) : (Code.region id ops true).wpIn (Fence.wide.inRound r) n P Q a w :=
  round_region_any hm hnd hout (AnyZ.any _ _ _ _ h)

/-- How a round ends here. -/
def roundEnd (R : World → Prop) : Exit → Act → World → Prop
  | .normal, _, w => R w
  | _, _, _ => False

set_option linter.unusedSimpArgs false in
set_option maxRecDepth 100000 in
set_option maxHeartbeats 1000000 in
theorem round_zero {r B pb po : Nat} {t0 t1 t4 t8 t9 t10 t11 : Value} {w : World} (hx : w.cell? ⟨pb, po, none⟩ = some (.int .i64 0)) :
    walkBody.wpIn (Fence.wide.inRound r) 0 Try.prog (roundEnd fun w' => w' = w)
      { tmps := #[t0, t1, .pointer (some ⟨B, 0, none⟩), .pointer (some ⟨B + 1, 0, none⟩), t4, .pointer (some ⟨B + 2, 0, none⟩), .pointer (some ⟨B + 4, 0, none⟩), .pointer (some ⟨pb, po, none⟩), t8, t9, t10, t11] ++ Array.replicate 30 undef, defers := [] } w := by
  simp only [walkBody, Try.f41, List.size_toArray, List.length_cons, List.length_nil, Nat.reduceAdd, Nat.reduceSub, Array.replicate_succ, Array.replicate_zero, List.push_toArray, List.append_toArray, List.nil_append, List.cons_append]
  gi_wp2
  exact rfl

set_option linter.unusedSimpArgs false in
set_option maxRecDepth 100000 in
set_option maxHeartbeats 1000000 in
theorem round_core {r B hb pb po g : Nat} {lb : Array Value} {t0 t1 t4 t8 t9 t10 t11 lv : Value} {x n n' : Int} {xs : List Int} {w : World} {M R : World → Prop}
    (eg : ∀ args w, (callFunc g args).run Try.prog w = .ok (.enter g args) w)
    (b0 : w.cell? ⟨B, 0, none⟩ = some (.pointer (some ⟨hb, 0, none⟩))) (b1 : w.cell? ⟨B + 1, 0, none⟩ = some (.func (.func g) #[] lb))
    (hx : w.cell? ⟨pb, po, none⟩ = some (.int .i64 x)) (hx0 : x ≠ 0)
    (HN : Calls Try.prog 44 #[.pointer (some ⟨hb, 0, none⟩), .int .i64 x] w.drew fun e w' => e = .returned (.int .i64 n) ∧ w.drew = w')
    (HM : Calls Try.prog g (#[.int .i64 n] ++ lb) w.drew fun e w' => e = .returned (.int .i64 n') ∧ M w')
    (hM : ∀ w1, M w1 → w1.cell? ⟨B, 0, none⟩ = some (.pointer (some ⟨hb, 0, none⟩)) ∧ w1.cell? ⟨B + 1, 0, none⟩ = some (.func (.func g) #[] lb) ∧ w1.cell? ⟨pb, po, none⟩ = some (.int .i64 x) ∧ w1.frozen? ⟨pb, po, none⟩ = false ∧
      w1.cell? ⟨B + 2, 0, none⟩ = some lv ∧ w1.frozen? ⟨B + 2, 0, none⟩ = false ∧ w1.cell? ⟨B + 4, 0, none⟩ = some (.map (some (B + 3))) ∧ IsSl w1 lv xs ∧ IsMap w1 (B + 3) xs (fun _ => .bool true) ∧ B + 4 < w1.heap.size ∧
      lv.ownBlock ≠ some pb ∧ lv.ownBlock ≠ some (B + 3) ∧ pb ≠ B + 2 ∧ pb ≠ B + 3 ∧ pb ≠ B + 4 ∧ lv.ownBlock ≠ some (B + 2)) (hlen : xs.length ≤ 900000000000)
    (hin : n' ∈ xs → ∀ w1, M w1 → R (w1.setCell ⟨pb, po, none⟩ (.int .i64 n')).drew)
    (hadd : n' ∉ xs → ∀ w1 o W v', M w1 → (∀ Wm : World, Wm.heap[B + 3]? = some o → IsMap Wm (B + 3) (xs ++ [n']) (fun _ => .bool true)) →
      Appended (((((w1.setCell ⟨pb, po, none⟩ (.int .i64 n')).drew).drew.putObj (B + 3) o).drew).alloc (.cells #[.int .i64 n'] 3)) W lv v' xs [n'] → R (W.setCell ⟨B + 2, 0, none⟩ v')) :
    walkBody.wpIn (Fence.wide.inRound r) 0 Try.prog (roundEnd R)
      { tmps := #[t0, t1, .pointer (some ⟨B, 0, none⟩), .pointer (some ⟨B + 1, 0, none⟩), t4, .pointer (some ⟨B + 2, 0, none⟩), .pointer (some ⟨B + 4, 0, none⟩), .pointer (some ⟨pb, po, none⟩), t8, t9, t10, t11] ++ Array.replicate 30 undef, defers := [] } w := by
  have HN' := Lib.hid HN
  have HM' := Lib.hid HM
  have hM' := Lib.hid hM
  have Hin := Lib.hid hin
  have Hadd := Lib.hid hadd
  have Eg := Lib.hid eg
  clear HN HM hM hin hadd eg
  simp only [walkBody, Try.f41, List.size_toArray, List.length_cons, List.length_nil, Nat.reduceAdd, Nat.reduceSub, Array.replicate_succ, Array.replicate_zero, List.push_toArray, List.append_toArray, List.nil_append, List.cons_append]
  gi_wp2
  refine round_region_z (fun W => W.cell? ⟨B, 0, none⟩ = some (.pointer (some ⟨hb, 0, none⟩)) ∧ W.cell? ⟨B + 1, 0, none⟩ = some (.func (.func g) #[] lb) ∧ W.cell? ⟨pb, po, none⟩ = some (.int .i64 x)) 9 (by kernel_rfl) (by kernel_rfl) (fun ⟨_, _, h⟩ => h) ?_
  have hS : (w.drew).cell? ⟨B, 0, none⟩ = some (.pointer (some ⟨hb, 0, none⟩)) ∧ (w.drew).cell? ⟨B + 1, 0, none⟩ = some (.func (.func g) #[] lb) ∧ (w.drew).cell? ⟨pb, po, none⟩ = some (.int .i64 x) := ⟨b0, b1, hx⟩
  refine anyZ_marks (fuel := 4) (a' := ?a1) [true, true, true, true, true, true, false, false, false, false] rfl hS (fun _ _ d _ _ h => by cases d <;> exact h) (by kernel_rfl) (fun W hW => ?_) ?_
  rotate_left
  · obtain ⟨s1, s2, s3⟩ := hW
    simp only [pick]
    repeat (go_big_quiet_step (fail))
    refine wpQuiet_nil ?_
    show _ = _
    with_reducible rfl
  refine anyZ_step 6 rfl (by kernel_rfl) rfl (fun K hK => ?_)
  go_simp
  go_at_call 44
  refine HN'.out.mono ?_
  rintro e w' ⟨rfl, rfl⟩
  refine hK _ _ (.inr ⟨b0, b1, hx⟩) ?_
  clear hK K hS
  refine anyZ_step 7 rfl (by kernel_rfl) rfl (fun K hK => ?_)
  refine wp_call_closure _ _ rfl rfl rfl Eg.out ?_
  refine HM'.out.mono ?_
  rintro e w1 ⟨rfl, hm⟩
  obtain ⟨k0, k1, k2, k3, k4, k5, k6, k7, k8, k9, k10, k11, k12, k13, k14, k15⟩ := hM'.out w1 hm
  refine ⟨_, rfl, ?_⟩
  refine hK _ _ (.inr ⟨k0, k1, k2⟩) ?_
  clear hK K b0 b1 hx
  refine anyZ_step 8 rfl (by kernel_rfl) rfl (fun K hK => ?_)
  go_simp
  refine hK _ _ (.inr ⟨k0, k1, k2⟩) ?_
  clear hK K
  refine anyZ_step 9 rfl (by kernel_rfl) rfl (fun K hK => ?_)
  go_simp
  refine hK _ _ (.inl (by kernel_rfl)) ?_
  clear hK K
  refine anyZ_done (by kernel_rfl) ?_ _
  gi_wp2
  obtain ⟨X, hX⟩ : ∃ X, X = w1.setCell ⟨pb, po, none⟩ (.int .i64 n') := ⟨_, rfl⟩
  have x0 : X.cell? ⟨pb, po, none⟩ = some (.int .i64 n') := by rw [hX]; exact World.cell?_setCell_same' _ _ _ (by rw [k2]; rfl)
  have oth : ∀ k, k ≠ pb → X.heap[k]? = w1.heap[k]? := fun k hk => by rw [hX]; exact setCell_other _ _ _ _ hk
  have x1 : X.cell? ⟨B + 2, 0, none⟩ = some lv := (cell_of_heap (oth _ (Ne.symm k12))).trans k4
  have x2 : X.frozen? ⟨B + 2, 0, none⟩ = false := (frozen_of_heap (oth _ (Ne.symm k12))).trans k5
  have x3 : X.cell? ⟨B + 4, 0, none⟩ = some (.map (some (B + 3))) := (cell_of_heap (oth _ (Ne.symm k14))).trans k6
  have x4 : IsSl X lv xs := k7.of_block fun k hk => oth k (fun e => k10 (by rw [← e]; exact hk))
  have x5 : IsMap X (B + 3) xs (fun _ => .bool true) := k8.of_block (oth _ (Ne.symm k13))
  have x6 : B + 4 < X.heap.size := by rw [hX]; simpa using k9
  rw [← hX]
  have HX := Lib.hid hX
  clear hX
  clear k0 k1 k2 k3 k4 k5 k6 k7 k8 k9 k12 k14 oth
  have X4 := Lib.hid x4
  have X5 := Lib.hid x5
  have K10 := Lib.hid k10
  have K11 := Lib.hid (And.intro k11 k13)
  have K15 := Lib.hid k15
  clear x4 x5 k10 k11 k13 k15
  refine round_region_z (fun W => W.heap = X.heap) 5 (by kernel_rfl) (by kernel_rfl) (fun ⟨_, _, h⟩ => h) ?_
  have hS : (X.drew).heap = X.heap := rfl
  refine anyZ_marks (fuel := 2) (a' := ?a2) [true, true, true, true, false, false] rfl hS (fun _ _ d _ _ h => by cases d <;> exact h) (by kernel_rfl) (fun W hW => ?_) ?_
  rotate_left
  · have s1 : W.cell? ⟨B + 4, 0, none⟩ = some (.map (some (B + 3))) := (cell_of_heap (by rw [hW])).trans x3
    have s2 : W.cell? ⟨pb, po, none⟩ = some (.int .i64 n') := (cell_of_heap (by rw [hW])).trans x0
    simp only [pick]
    repeat (go_big_quiet_step (fail))
    refine wpQuiet_nil ?_
    show _ = _
    with_reducible rfl
  refine anyZ_step 4 rfl (by kernel_rfl) rfl (fun K hK => ?_)
  by_cases hin : n' ∈ xs
  · obtain ⟨i, hi⟩ := List.mem_iff_getElem?.1 hin
    obtain ⟨j, _, hl⟩ := (run_lookup_ints Try.underlying91 (Try.zeroValue4 _) (X5.out.of_block (w' := X.drew) rfl) n').2 i hi
    refine wp_lookup_run 91 _ _ rfl rfl rfl hl ?_
    refine hK _ _ (.inr rfl) ?_
    clear hK K hl
    refine anyZ_step 5 rfl (by kernel_rfl) rfl (fun K hK => ?_)
    go_simp
    refine hK _ _ (.inl (by kernel_rfl)) ?_
    clear hK K
    refine anyZ_done (by kernel_rfl) ?_ _
    gi_wp2
    show R X.drew
    rw [HX.out]
    exact Hin.out hin w1 hm
  · have hl := (run_lookup_ints Try.underlying91 (Try.zeroValue4 _) (X5.out.of_block (w' := X.drew) rfl) n').1 hin
    refine wp_lookup_run 91 _ _ rfl rfl rfl hl ?_
    refine hK _ _ (.inr rfl) ?_
    clear hK K hl
    refine anyZ_step 5 rfl (by kernel_rfl) rfl (fun K hK => ?_)
    go_simp
    refine hK _ _ (.inl (by kernel_rfl)) ?_
    clear hK K
    refine anyZ_done (by kernel_rfl) ?_ _
    gi_wp2
    obtain ⟨o, hu, x7⟩ := run_insert_ints (w := X.drew.drew) Try.underlying91 (X5.out.of_block (w' := X.drew.drew) rfl) n' (.bool true) hin
    have x7' : IsMap (X.drew.drew.putObj (B + 3) o) (B + 3) (xs ++ [n']) (fun _ => .bool true) := by
      obtain ⟨es, c, q1, q2, q3⟩ := x7
      exact ⟨es, c, q1, q2, fun i y hy => by
        obtain ⟨e, q4, q5, q6⟩ := q3 i y hy
        exact ⟨e, q4, q5, by rw [q6]; show (if i = xs.length then Value.bool true else Value.bool true) = _; split <;> rfl⟩⟩
    have X7 := Lib.hid x7'
    clear x7 x7'
    refine round_region_z (fun W => W.heap = X.heap) 4 (by kernel_rfl) (by kernel_rfl) (fun ⟨_, _, h⟩ => h) ?_
    have hS : (X.drew.drew).heap = X.heap := rfl
    refine anyZ_marks (fuel := 1) (a' := ?a3) [true, true, true, true, false] rfl hS (fun _ _ d _ _ h => by cases d <;> exact h) (by kernel_rfl) (fun W hW => ?_) ?_
    rotate_left
    · have s1 : W.cell? ⟨B + 4, 0, none⟩ = some (.map (some (B + 3))) := (cell_of_heap (by rw [hW])).trans x3
      have s2 : W.cell? ⟨pb, po, none⟩ = some (.int .i64 n') := (cell_of_heap (by rw [hW])).trans x0
      simp only [pick]
      repeat (go_big_quiet_step (fail))
      refine wpQuiet_nil ?_
      show _ = _
      with_reducible rfl
    refine anyZ_step 4 rfl (by kernel_rfl) rfl (fun K hK => ?_)
    refine wp_mapUpdate_run 91 _ _ _ rfl rfl rfl rfl hu rfl ?_
    refine hK _ _ (.inl (by kernel_rfl)) ?_
    clear hK K hu hS
    refine anyZ_done (by kernel_rfl) ?_ _
    obtain ⟨Y, hY⟩ : ∃ Y, Y = X.drew.drew.putObj (B + 3) o := ⟨_, rfl⟩
    have oth : ∀ k, k ≠ B + 3 → Y.heap[k]? = X.heap[k]? := fun k hk => by rw [hY]; exact World.putObj_heap_other hk
    have y0 : Y.cell? ⟨pb, po, none⟩ = some (.int .i64 n') := (cell_of_heap (oth _ K11.out.2)).trans x0
    have y1 : Y.cell? ⟨B + 2, 0, none⟩ = some lv := (cell_of_heap (oth _ (by show B + 2 ≠ B + 3; omega))).trans x1
    have y2 : Y.frozen? ⟨B + 2, 0, none⟩ = false := (frozen_of_heap (oth _ (by show B + 2 ≠ B + 3; omega))).trans x2
    have y4 : IsSl Y lv xs := X4.out.of_block fun k hk => oth k (fun e => K11.out.1 (by rw [← e]; exact hk))
    have y6 : B + 4 < Y.heap.size := by rw [hY]; simpa using x6
    rw [← hY]
    have HY := Lib.hid hY
    have Y4 := Lib.hid y4
    clear hY x0 x1 x2 x3 x6 oth y4
    gi_wp2
    have hap : ∀ W : World, W.heap = ((Y.drew).alloc (.cells #[.int .i64 n'] 3)).heap → ∀ ty, ∃ v' w', (Builtin.append_ #[35, 35] ty #[lv, .slice (some ⟨Y.heap.size, 0, none⟩) 1 1]).run Try.prog W = .ok v' w' ∧ Appended W w' lv v' xs [n'] := by
      intro W hW ty
      have hfrom : ∀ k, k < Y.heap.size → W.heap[k]? = Y.heap[k]? := fun k hk => by rw [hW]; exact Below.heap_alloc Y.drew _ k hk
      have hl := run_app (w := W) (v := lv) (xs := xs) (Y4.out.of_block fun k hk => hfrom k (Y4.out.lt hk)) (ad := ⟨Y.heap.size, 0, none⟩) (c := 1) (ys := [n']) ty (fun j y hy => by
        cases j with
        | zero =>
          cases hy
          have : W.heap[Y.heap.size]? = some (.cells #[.int .i64 n'] 3) := by rw [hW]; exact World.alloc_heap_new Y.drew _
          simp [World.cell?, Addr.add, this]
        | succ j => simp at hy) (by simp; omega)
      exact hl
    have HA := Lib.hid hap
    clear hap
    refine round_region_z (fun W => W.cell? ⟨B + 2, 0, none⟩ = some lv ∧ W.cell? ⟨pb, po, none⟩ = some (.int .i64 n')) 6 (by kernel_rfl) (by kernel_rfl) (fun ⟨_, _, h⟩ => h) ?_
    have hS : (Y.drew).cell? ⟨B + 2, 0, none⟩ = some lv ∧ (Y.drew).cell? ⟨pb, po, none⟩ = some (.int .i64 n') := ⟨y1, y0⟩
    refine anyZ_marks (fuel := 3) (a' := ?a4) [true, true, true, true, false, false, false] rfl hS (fun _ _ d _ _ h => by cases d <;> exact h) (by kernel_rfl) (fun W hW => ?_) ?_
    rotate_left
    · obtain ⟨s1, s2⟩ := hW
      simp only [pick]
      repeat (go_big_quiet_step (fail))
      refine wpQuiet_nil ?_
      show _ = _
      with_reducible rfl
    refine anyZ_step 4 rfl (by kernel_rfl) rfl (fun K hK => ?_)
    go_simp
    refine hK _ _ (.inr ⟨?_, ?_⟩) ?_
    · exact (cell_of_heap (a := ⟨B + 2, 0, none⟩) (Below.heap_alloc Y.drew _ _ (by show B + 2 < Y.heap.size; omega))).trans y1
    · exact (cell_of_heap (a := ⟨pb, po, none⟩) (Below.heap_alloc Y.drew _ _ (World.block_lt_of_cell? _ _ y0))).trans y0
    clear hK K hS
    refine anyZ_step 5 rfl (by kernel_rfl) rfl (fun K hK => ?_)
    refine wp_app (w0 := (Y.drew).alloc (.cells #[.int .i64 n'] 3)) _ _ rfl rfl rfl HA.out rfl ?_
    intro v' w2 ha0
    have ha : Appended ((Y.drew).alloc (.cells #[.int .i64 n'] 3)) w2 lv v' xs [n'] := ha0
    clear ha0
    obtain ⟨a', c', e'⟩ := ha.new.shape
    have hh : ∀ k, k < Y.heap.size → lv.ownBlock ≠ some k → w2.heap[k]? = Y.heap[k]? := fun k hk hn =>
      (ha.fr.block k (by simp; omega) hn).trans (Below.heap_alloc Y.drew _ k hk)
    have z1 := (cell_of_heap (a := ⟨B + 2, 0, none⟩) (hh _ (by show B + 2 < _; omega) K15.out)).trans y1
    have z2 := (frozen_of_heap (a := ⟨B + 2, 0, none⟩) (hh _ (by show B + 2 < _; omega) K15.out)).trans y2
    have z0 := (cell_of_heap (a := ⟨pb, po, none⟩) (hh _ (World.block_lt_of_cell? _ _ y0) K10.out)).trans y0
    have Ha := Lib.hid ha
    clear ha hh y0 y1 y2
    rw [List.length_append] at e'
    subst e'
    refine hK _ _ (.inr ⟨z1, z0⟩) ?_
    clear hK K
    refine anyZ_step 6 rfl (by kernel_rfl) rfl (fun K hK => ?_)
    go_simp
    refine hK _ _ (.inl (by kernel_rfl)) ?_
    clear hK K
    refine anyZ_done (by kernel_rfl) ?_ _
    gi_wp2
    show R (w2.setCell ⟨B + 2, 0, none⟩ (Value.slice a' (xs.length + 1) c'))
    have e1 := HX.out
    have e2 := HY.out
    have ha := Ha.out
    have x7 := X7.out
    rw [e2] at ha
    rw [e1] at ha x7
    have hlt : B + 3 < (w1.setCell ⟨pb, po, none⟩ (.int .i64 n')).heap.size := by have := y6; rw [e2, e1] at this; simp at this ⊢; omega
    exact Hadd.out hin w1 o w2 _ hm (fun Wm hWm => x7.of_block (by rw [hWm]; exact (World.putObj_heap_same hlt).symm)) ha
end Go.Proofs.Ythjokcjdphempaa
