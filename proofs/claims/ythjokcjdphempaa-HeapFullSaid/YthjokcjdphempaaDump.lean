/- The closure of Dump: the code. -/
import Derived.Test.YthjokcjdphempaaMake
namespace Go.Proofs.Ythjokcjdphempaa
open Go.RowKit Hp Go.Shelf

/-- The world in which the walk of a dump begins. -/
def dumpW (w : World) : World := (w.alloc (.map #[] 0)).alloc (.cells #[.map (some w.heap.size)] 76)

theorem wp_app_value {o : Oper} {a : Act} {w : World} {K : Act → World → Prop} {Q : Exit → Act → World → Prop} (t : TypeId)
    (s x : Operand) (hop : o.op = Op.call { callee := Callee.builtin Builtin.append, args := #[s, x], argTypes := #[t, t] }) {vs vx v' : Value} {w' : World} (hs : a.eval s = vs) (hx : a.eval x = vx)
    (hr : (Builtin.append_ #[t, t] o.type #[vs, vx]).run Try.prog w = .ok v' w') (hK : K (a.put o.dst v') w') : Oper.wp Try.prog o a w K Q :=
  Lib.wp_append_run w s x t t hop vs vx hs hx v' w' hr hK

/-- Two operations may come up: both are carried out. -/
theorem anyZ_two {P : Program} {md : Region.Mode} {ops : Array Oper} {Q : Exit → Act → World → Prop} {S : World → Prop} {z : Nat} (i j : Nat) {oi oj : Oper} {fuel : Nat} {listed : Array Bool} {a : Act} {w : World}
    (hi : ops[i]? = some oi) (hj : ops[j]? = some oj) (hr : Region.ready md ops listed = [i, j]) (hgi : oi.guard = none) (hgj : oj.guard = none)
    (h1 : ∀ K : Act → World → Prop, (∀ a' w', ((listed.setIfInBounds i true).getD z false = true ∨ S w') → AnyZ P md ops Q S z fuel (listed.setIfInBounds i true) a' w' → K a' w') → oi.wp P a w K Q)
    (h2 : ∀ K : Act → World → Prop, (∀ a' w', ((listed.setIfInBounds j true).getD z false = true ∨ S w') → AnyZ P md ops Q S z fuel (listed.setIfInBounds j true) a' w' → K a' w') → oj.wp P a w K Q) :
    AnyZ P md ops Q S z (fuel + 1) listed a w := by
  refine ⟨fun h0 => absurd (hr ▸ h0) (by simp), fun k hk => ?_⟩
  rw [hr] at hk
  have hk' : k = i ∨ k = j := by simpa using hk
  rcases hk' with rfl | rfl
  · have hw : Region.wanted oi (yielded ops a.tmps) = true := by simp [Region.wanted, hgi]
    unfold wpOp
    simp only [hi, hw, if_true]
    exact .inl (h1 _ fun a' w' h1 h2 => ⟨h1, h2⟩)
  · have hw : Region.wanted oj (yielded ops a.tmps) = true := by simp [Region.wanted, hgj]
    unfold wpOp
    simp only [hj, hw, if_true]
    exact .inl (h2 _ fun a' w' h1 h2 => ⟨h1, h2⟩)

/-- A number x, which stands for y in a dump, is appended to the list at cell; nb, hx: what the closure that numbers has captured. -/
def Push (W : World) (cell : Addr) (x y : Int) (nb hx : Nat) (J : World → Prop) : Prop :=
  ∃ v, W.cell? cell = some v ∧ (∀ W', Eqw W W' → Calls Try.prog 43 #[.int .i64 x, .pointer (some ⟨nb, 0, none⟩), .pointer (some ⟨hx, 0, none⟩)] W' fun e W'' => e = .returned (.int .i64 y) ∧ ∃ k, W'' = W'.drewN k) ∧
    ∀ W1, Eqw (W.alloc (.cells #[.int .i64 y] 3)) W1 → ∃ va vn vc W2, (Builtin.append_ #[35, 35] 35 #[v, .slice (some ⟨W.heap.size, 0, none⟩) 1 1]).run Try.prog W1 = .ok (.slice va vn vc) W2 ∧ W2.cell? cell = some v ∧ W2.frozen? cell = false ∧
      ∀ W3, Eqw (W2.setCell cell (.slice va vn vc)) W3 → J W3

set_option maxRecDepth 100000 in
set_option maxHeartbeats 4000000 in
theorem dump_core {hb hx dx n0 N : Nat} {w : World} {sv : Value} {J1 J2 J3 : Value → Nat → World → Prop} {J4 : Value → Nat → Nat → Nat → World → Prop} (hNs : N ≤ 900000000000) (hn0 : n0 ≤ 900000000000)
    (c1 : w.cell? ⟨hx, 0, none⟩ = some (.pointer (some ⟨hb, 0, none⟩)))
    (H41 : Calls Try.prog 41 #[.pointer (some ⟨hb, 0, none⟩), .func (.func 42) #[] #[]] (dumpW w) fun e W => ∃ lv, e = .returned lv ∧ (∃ la lc, lv = .slice la N lc ∧ N ≤ lc) ∧ J1 lv 0 W)
    (hJ1 : ∀ lv i W, J1 lv i W → i < N → ∃ lb lo lc x, lv = .slice (some ⟨lb, lo, none⟩) N lc ∧ N ≤ lc ∧ W.cell? ⟨lb, lo + i, none⟩ = some (.int .i64 x) ∧ W.cell? ⟨w.heap.size + 1, 0, none⟩ = some (.map (some w.heap.size)) ∧
      ∃ W', (Instr.mapUpdate 76 (.map (some w.heap.size)) (.int .i64 x) (.int .i64 ((i : Int) + 1))).run Try.prog W = .ok () W' ∧ J1 lv (i + 1) W')
    (hE1 : ∀ lv W, J1 lv N W → W.cell? ⟨hx, 0, none⟩ = some (.pointer (some ⟨hb, 0, none⟩)) ∧ W.cell? ⟨hb, 12, none⟩ = some sv ∧ (∃ sa sc, sv = .slice sa n0 sc ∧ n0 ≤ sc) ∧ J2 lv 0 W)
    (hJ2 : ∀ lv i W, J2 lv i W → i < n0 → ∃ sb so sc x y, sv = .slice (some ⟨sb, so, none⟩) n0 sc ∧ n0 ≤ sc ∧ W.cell? ⟨sb, so + i, none⟩ = some (.int .i64 x) ∧ Push W ⟨dx, 0, none⟩ x y (w.heap.size + 1) hx (J2 lv (i + 1)))
    (hE2 : ∀ lv W, J2 lv n0 W → J3 lv 0 W)
    (hJ3 : ∀ lv i W, J3 lv i W → i < N → ∃ lb lo lc r ob op sz x nr tg, lv = .slice (some ⟨lb, lo, none⟩) N lc ∧ N ≤ lc ∧ W.cell? ⟨lb, lo + i, none⟩ = some (.int .i64 r) ∧ W.cell? ⟨hx, 0, none⟩ = some (.pointer (some ⟨hb, 0, none⟩)) ∧
      Calls Try.prog 45 #[.pointer (some ⟨hb, 0, none⟩), .int .i64 r] W (fun e W' => e = .returned (.slice (some ⟨ob, op, none⟩) sz sz) ∧ W = W') ∧ W.cell? ⟨ob, op, none⟩ = some (.int .i64 x) ∧ 0 ≤ x ∧ x ≤ 4611686018427387904 ∧ refsN x = nr ∧ tagN x = tg ∧ 1 + nr ≤ sz ∧ nr ≤ 4000 ∧ sz ≤ 1000000 ∧
      (∀ W1, Eqw (W.alloc (.cells #[.int .i64 0, .slice none 0 0, .slice none 0 0] 67)) W1 → Calls Try.prog 48 #[.slice (if sz = 1 + nr then some ⟨ob, op, none⟩ else some ⟨ob, op + (1 + nr), none⟩) (sz - (1 + nr)) (sz - (1 + nr))] W1 fun e W2 => ∃ ra rn rc, e = .returned (.slice ra rn rc) ∧
        (∀ k, k < 3 → ∃ u, W2.cell? ⟨W.heap.size, k, none⟩ = some u) ∧ (∀ k, W2.frozen? ⟨W.heap.size, k, none⟩ = false) ∧
        ∀ W3, Eqw (((W2.setCell ⟨W.heap.size, 0, none⟩ (.int .i64 tg)).setCell ⟨W.heap.size, 1, none⟩ (.slice none 0 0)).setCell ⟨W.heap.size, 2, none⟩ (.slice ra rn rc)) W3 → J4 lv i W.heap.size 0 W3) ∧
      (∀ W1, Eqw W W1 → Calls Try.prog 48 #[.slice (if sz = 1 + nr then some ⟨ob, op, none⟩ else some ⟨ob, op + (1 + nr), none⟩) (sz - (1 + nr)) (sz - (1 + nr))] W1 fun e W2 => ∃ ra rn rc, e = .returned (.slice ra rn rc) ∧
        ∀ W3, Eqw (W2.alloc (.cells #[.int .i64 tg, .slice none 0 0, .slice ra rn rc] 67)) W3 → J4 lv i W2.heap.size 0 W3) ∧
      (∀ xb k W1, J4 lv i xb k W1 → k < nr → ∃ y z, W1.cell? ⟨ob, op + (1 + k), none⟩ = some (.int .i64 y) ∧ Push W1 ⟨xb, 1, none⟩ y z (w.heap.size + 1) hx (J4 lv i xb (k + 1))) ∧
      (∀ xb W1, J4 lv i xb nr W1 → ∃ v0 a1 b1 d1 a2 b2 d2 ov, W1.cell? ⟨xb, 0, none⟩ = some (.int .i64 v0) ∧ W1.cell? ⟨xb, 1, none⟩ = some (.slice a1 b1 d1) ∧ W1.cell? ⟨xb, 2, none⟩ = some (.slice a2 b2 d2) ∧ W1.cell? ⟨dx, 1, none⟩ = some ov ∧
        ∃ va vn vc W2, (Builtin.append_ #[36, 36] 36 #[ov, .slice (some ⟨W1.heap.size, 0, none⟩) 1 1]).run Try.prog (W1.alloc (.cells #[.int .i64 v0, .slice a1 b1 d1, .slice a2 b2 d2] 67)) = .ok (.slice va vn vc) W2 ∧ W2.cell? ⟨dx, 1, none⟩ = some ov ∧ W2.frozen? ⟨dx, 1, none⟩ = false ∧ J3 lv (i + 1) (W2.setCell ⟨dx, 1, none⟩ (.slice va vn vc)))) :
    Calls Try.prog 40 #[.pointer (some ⟨hx, 0, none⟩), .pointer (some ⟨dx, 0, none⟩)] w fun e w' => e = .returned (.tuple #[]) ∧ ∃ lv W, J3 lv N W ∧ Eqw W w' := by
  have hmm := @run_makeMap Try.prog
  have hmf : ∀ (fn : Fn) (first cap : Array Value) (w : World), (Instr.makeFunc fn first cap).run Try.prog w = .ok (.func fn first cap) w := fun _ _ _ _ => rfl
  have HG := Lib.hid (fun args W => enters_of Try.func43 (by kernel_rfl) rfl args W)
  have A41 := Lib.hid H41
  have AJ1 := Lib.hid hJ1
  have AE1 := Lib.hid hE1
  have AJ2 := Lib.hid hJ2
  have AE2 := Lib.hid hE2
  have AJ3 := Lib.hid hJ3
  have c1' : (dumpW w).cell? ⟨hx, 0, none⟩ = some (.pointer (some ⟨hb, 0, none⟩)) := alloc_cell (alloc_cell c1 _) _
  unfold dumpW at c1' A41
  clear H41 hJ1 hE1 hJ2 hE2 hJ3
  go_enter Try.func40, Try.ntmps40
  go_wp2_with (go_at_call 41; refine A41.out.mono ?_; rintro e w1 ⟨lv, rfl, ⟨la, lc, hlv, hNc⟩, hj0⟩; have HJ0 := Lib.hid hj0; clear hj0 c1 c1'; subst hlv)
  go_loopw [21] (fun t wr => ∃ i : Nat, t = .int .i64 i ∧ i ≤ N ∧ J1 (.slice la N lc) i wr) (fun t _ => N - (intOf t).toNat)
  case atStart => exact ⟨0, rfl, Nat.zero_le _, HJ0.out⟩
  case round =>
    obtain ⟨i, rfl, hi, hj⟩ := hrel
    clear HJ0
    by_cases hlt : i < N
    · obtain ⟨lb, lo, lc', x, e1, hNc', k1, k2, W', hr, hj1⟩ := AJ1.out _ i wr hj hlt
      cases e1
      have HJ1 := Lib.hid hj1
      clear hj1 hj
      go_wp2
      go_roundw
      case rel => exact ⟨i + 1, by go_num, by omega, HJ1.out⟩
      case measure => simp [intOf]; omega
    · have hin : i = N := by omega
      subst hin
      obtain ⟨k1, k2, ⟨sa, sc, hsv, hsc⟩, hj2⟩ := AE1.out _ _ hj
      have HJ2 := Lib.hid hj2
      clear hj2 hj
      subst hsv
      go_wp2
      go_loopw [37] (fun t wr => ∃ k : Nat, t = .int .i64 k ∧ k ≤ n0 ∧ J2 (.slice la i lc) k wr) (fun t _ => n0 - (intOf t).toNat)
      case atStart => exact ⟨0, rfl, Nat.zero_le _, HJ2.out⟩
      case round =>
        obtain ⟨k, rfl, hk, hj⟩ := hrel
        clear HJ2 k1 k2
        by_cases hlt2 : k < n0
        · obtain ⟨sb, so, sc', x, y, e1, hsc', k1, hp⟩ := AJ2.out _ k _ hj hlt2
          cases e1
          have HP := Lib.hid hp
          clear hp hj
          go_wp2
          obtain ⟨v, q1, qc, qa⟩ := HP.out
          have QC := Lib.hid qc
          have QA := Lib.hid qa
          clear qc qa HP
          refine wp_region_z (fun W => W.cell? ⟨dx, 0, none⟩ = some v) 8 (by kernel_rfl) ?_
          have hS : wr.drew.cell? ⟨dx, 0, none⟩ = some v := q1
          refine anyZ_marks (fuel := 5) (a' := ?a1) [true, true, true, true, false, false, false, false, false] rfl hS (fun _ _ d _ _ h => by cases d <;> exact h) (by kernel_rfl) (fun W hW => ?_) ?_
          rotate_left
          · simp only [pick]
            repeat (go_big_quiet_step (fail))
            refine wpQuiet_nil ?_
            show _ = _
            with_reducible rfl
          refine anyZ_step 4 rfl (by kernel_rfl) rfl (fun K hK => ?_)
          refine wp_call_closure _ _ rfl rfl rfl HG.out ?_
          refine (QC.out wr.drew ⟨rfl, rfl, rfl, rfl⟩).mono ?_
          rintro e W9 ⟨rfl, k9, hk9⟩
          have q2 : W9.cell? ⟨dx, 0, none⟩ = some v := by rw [hk9]; exact q1
          have q3 : Eqw (wr.alloc (.cells #[.int .i64 y] 3)) (W9.alloc (.cells #[.int .i64 y] 3)) := by rw [hk9]; exact ⟨rfl, rfl, rfl, rfl⟩
          have q4 : W9.heap.size = wr.heap.size := by rw [hk9]; rfl
          clear hk9
          obtain ⟨va, vn, vc, W2, a1, a2, a3, a4⟩ := QA.out _ q3
          rw [← q4] at a1
          have HA1 := Lib.hid a1
          have HA4 := Lib.hid a4
          have q5 := alloc_cell q2 (.cells #[.int .i64 y] 3)
          clear a1 a4 q3 q4
          refine ⟨_, rfl, ?_⟩
          refine hK _ _ (.inr q2) ?_
          clear hK K hS
          refine anyZ_step 5 rfl (by kernel_rfl) rfl (fun K hK => ?_)
          go_simp
          refine hK _ _ (.inr q5) ?_
          clear hK K
          refine anyZ_step 6 rfl (by kernel_rfl) rfl (fun K hK => ?_)
          refine wp_app_value 35 _ _ rfl rfl rfl HA1.out ?_
          refine hK _ _ (.inr a2) ?_
          clear hK K q5 q2 q1
          refine anyZ_step 7 rfl (by kernel_rfl) rfl (fun K hK => ?_)
          go_simp
          refine hK _ _ (.inr a2) ?_
          clear hK K
          refine anyZ_step 8 rfl (by kernel_rfl) rfl (fun K hK => ?_)
          go_simp
          refine hK _ _ (.inl (by kernel_rfl)) ?_
          clear hK K
          refine anyZ_done (by kernel_rfl) ?_ _
          go_wp2
          go_roundw
          case rel => exact ⟨k + 1, by go_num, by omega, HA4.out _ ⟨rfl, rfl, rfl, rfl⟩⟩
          case measure => simp [intOf]; omega
        · have hkn : k = n0 := by omega
          subst hkn
          have HJ3 := Lib.hid (AE2.out _ _ hj)
          clear hj
          go_wp2
          go_loopw [52] (fun t wr => ∃ k : Nat, t = .int .i64 k ∧ k ≤ i ∧ J3 (.slice la i lc) k wr) (fun t _ => i - (intOf t).toNat)
          case atStart => exact ⟨0, rfl, Nat.zero_le _, HJ3.out⟩
          case round =>
            obtain ⟨j, rfl, hj1, hj⟩ := hrel
            clear HJ3
            by_cases hlt3 : j < i
            · obtain ⟨lb, lo, lc', r, ob, op, sz, x, nr, tg, e1, hNc', k1, k2, hc45, k3, x1, x2, x3, x4, x5, x6, x7, hA, hB, h4, hE⟩ := AJ3.out _ j _ hj hlt3
              cases e1
              have H45 := Lib.hid hc45
              have HA := Lib.hid hA
              have HB := Lib.hid hB
              have H4 := Lib.hid h4
              have HE := Lib.hid hE
              have H46 := Lib.hid (fun W => refsOf_any x W x1 x2)
              have H47 := Lib.hid (fun W => tagOf_any x W x1 x2)
              rw [x3] at H46
              rw [x4] at H47
              clear hc45 hA hB h4 hE x3 x4 x1 x2 hj
              have hsz1 : 0 < sz := by omega
              obtain ⟨pa, hpa⟩ : ∃ pa, (if sz = 1 + nr then some (⟨ob, op, none⟩ : Addr) else some ⟨ob, op + (1 + nr), none⟩) = pa := ⟨_, rfl⟩
              obtain ⟨pb, hpb⟩ : ∃ pb, (if sz = 1 then some (⟨ob, op, none⟩ : Addr) else some ⟨ob, op + 1, none⟩) = pb := ⟨_, rfl⟩
              have hpb2 : 0 < nr → pb = some ⟨ob, op + 1, none⟩ := fun h => by rw [← hpb, if_neg (by omega)]
              have HPB := Lib.hid hpb2
              clear hpb2
              rw [hpa] at HA HB
              go_wp2_with (first | (go_at_call 45; refine H45.out.mono ?_; rintro e w' ⟨rfl, rfl⟩) | (go_at_call 46; refine (H46.out _).mono ?_; rintro e w' ⟨rfl, rfl⟩))
              refine wp_region_z (fun W => W.cell? ⟨ob, op, none⟩ = some (.int .i64 x)) 7 (by kernel_rfl) ?_
              have hS : wr.drew.cell? ⟨ob, op, none⟩ = some (.int .i64 x) := k3
              have k3x := alloc_cell (w := wr) k3 (.cells #[.int .i64 0, .slice none 0 0, .slice none 0 0] 67)
              refine anyZ_marks (fuel := 5) (a' := ?a3) [true, true, true, false, true, true, true, false, false, false, false] rfl hS (fun _ _ d _ _ h => by cases d <;> exact h) (by kernel_rfl) (fun W hW => ?_) ?_
              rotate_left
              · simp only [pick]
                repeat (go_big_quiet_step (fail))
                refine wpQuiet_nil ?_
                show _ = _
                with_reducible rfl
              refine anyZ_two 3 9 rfl rfl (by kernel_rfl) rfl rfl (fun K hK => ?_) (fun K hK => ?_)
              ·   go_simp
                  go_at_call 47
                  refine (H47.out _).mono ?_
                  rintro e w' ⟨rfl, rfl⟩
                  refine hK _ _ (.inr hS) ?_
                  clear hK K
                  refine anyZ_two 7 9 rfl rfl (by kernel_rfl) rfl rfl (fun K hK => ?_) (fun K hK => ?_)
                  ·   go_simp
                      go_at_call 48
                      refine (HB.out wr.drew ⟨rfl, rfl, rfl, rfl⟩).mono ?_
                      rintro e W2 ⟨ra, rn, rc, rfl, hj4⟩
                      have HJ4 := Lib.hid hj4
                      clear hj4
                      refine hK _ _ (.inl (by kernel_rfl)) ?_
                      clear hK K
                      refine anyZ_two 8 9 rfl rfl (by kernel_rfl) rfl rfl (fun K hK => ?_) (fun K hK => ?_)
                      ·   go_simp
                          refine hK _ _ (.inl (by kernel_rfl)) ?_
                          clear hK K
                          refine anyZ_step 9 rfl (by kernel_rfl) rfl (fun K hK => ?_)
                          go_simp
                          refine hK _ _ (.inl (by kernel_rfl)) ?_
                          clear hK K
                          refine anyZ_step 10 rfl (by kernel_rfl) rfl (fun K hK => ?_)
                          go_simp
                          refine hK _ _ (.inl (by kernel_rfl)) ?_
                          clear hK K
                          refine anyZ_done (by kernel_rfl) ?_ _
                          have hj40 := HJ4.out _ ⟨rfl, rfl, rfl, rfl⟩
                          have HJ40 := Lib.hid hj40
                          clear hj40 HJ4
                          clear hpa
                          go_wp2
                          clear hpb
                          rw [Nat.add_sub_cancel_left]
                          obtain ⟨xb, hxb⟩ : ∃ xb, xb = W2.heap.size := ⟨_, rfl⟩
                          rw [← hxb] at HJ40
                          rw [← hxb]
                          clear hxb
                          go_loopw [77] (fun t wr => ∃ m : Nat, t = .int .i64 m ∧ m ≤ nr ∧ J4 (.slice (some ⟨lb, lo, none⟩) i lc) j xb m wr) (fun t _ => nr - (intOf t).toNat)
                          case atStart => exact ⟨0, rfl, Nat.zero_le _, HJ40.out⟩
                          case round =>
                            obtain ⟨m, rfl, hm, hj⟩ := hrel
                            clear HJ40
                            by_cases hlt4 : m < nr
                            · obtain ⟨x9, y, g1, hp⟩ := H4.out xb m wr hj hlt4
                              have HP := Lib.hid hp
                              have hpbe := HPB.out (by omega)
                              subst hpbe
                              have g2 : wr.cell? ⟨ob, op + 1 + m, none⟩ = some (.int .i64 x9) := by rw [Nat.add_assoc]; exact g1
                              clear hp hj g1
                              go_wp2
                              obtain ⟨v, q1, qc, qa⟩ := HP.out
                              have QC := Lib.hid qc
                              have QA := Lib.hid qa
                              clear qc qa HP
                              refine wp_region_z (fun W => W.cell? ⟨xb, 1, none⟩ = some v) 8 (by kernel_rfl) ?_
                              have hS : wr.drew.cell? ⟨xb, 1, none⟩ = some v := q1
                              refine anyZ_marks (fuel := 5) (a' := ?h1) [true, true, true, true, false, false, false, false, false] rfl hS (fun _ _ d _ _ h => by cases d <;> exact h) (by kernel_rfl) (fun W hW => ?_) ?_
                              rotate_left
                              · simp only [pick]
                                repeat (go_big_quiet_step (fail))
                                refine wpQuiet_nil ?_
                                show _ = _
                                with_reducible rfl
                              refine anyZ_step 4 rfl (by kernel_rfl) rfl (fun K hK => ?_)
                              refine wp_call_closure _ _ rfl rfl rfl HG.out ?_
                              refine (QC.out wr.drew ⟨rfl, rfl, rfl, rfl⟩).mono ?_
                              rintro e W9 ⟨rfl, k9, hk9⟩
                              have q2 : W9.cell? ⟨xb, 1, none⟩ = some v := by rw [hk9]; exact q1
                              have q3 : Eqw (wr.alloc (.cells #[.int .i64 y] 3)) (W9.alloc (.cells #[.int .i64 y] 3)) := by rw [hk9]; exact ⟨rfl, rfl, rfl, rfl⟩
                              have q4 : W9.heap.size = wr.heap.size := by rw [hk9]; rfl
                              clear hk9
                              obtain ⟨va, vn, vc, W2, a1, a2, a3, a4⟩ := QA.out _ q3
                              rw [← q4] at a1
                              have HA1 := Lib.hid a1
                              have HA4 := Lib.hid a4
                              have q5 := alloc_cell q2 (.cells #[.int .i64 y] 3)
                              clear a1 a4 q3 q4
                              refine ⟨_, rfl, ?_⟩
                              refine hK _ _ (.inr q2) ?_
                              clear hK K hS
                              refine anyZ_step 5 rfl (by kernel_rfl) rfl (fun K hK => ?_)
                              go_simp
                              refine hK _ _ (.inr q5) ?_
                              clear hK K
                              refine anyZ_step 6 rfl (by kernel_rfl) rfl (fun K hK => ?_)
                              refine wp_app_value 35 _ _ rfl rfl rfl HA1.out ?_
                              refine hK _ _ (.inr a2) ?_
                              clear hK K q5 q2 q1
                              refine anyZ_step 7 rfl (by kernel_rfl) rfl (fun K hK => ?_)
                              go_simp
                              refine hK _ _ (.inr a2) ?_
                              clear hK K
                              refine anyZ_step 8 rfl (by kernel_rfl) rfl (fun K hK => ?_)
                              go_simp
                              refine hK _ _ (.inl (by kernel_rfl)) ?_
                              clear hK K
                              refine anyZ_done (by kernel_rfl) ?_ _
                              go_wp2
                              go_roundw
                              case rel => exact ⟨m + 1, by go_num, by omega, HA4.out _ ⟨rfl, rfl, rfl, rfl⟩⟩
                              case measure => simp [intOf]; omega
                            · have hmn : m = nr := by omega
                              subst hmn
                              obtain ⟨v0, a1, b1, d1, a2, b2, d2, ov, f0, f1, f2, f3, va, vn, vc, W8, hrun, f4, f5, hj3⟩ := HE.out xb wr hj
                              have HR8 := Lib.hid hrun
                              have HJ8 := Lib.hid hj3
                              clear hrun hj3 hj
                              go_wp2_with (at_builtin; refine Lib.wpList_append_run _ rfl _ _ _ _ rfl _ _ rfl rfl _ _ HR8.out ?_)
                              go_roundw
                              case rel => exact ⟨j + 1, by go_num, by omega, HJ8.out⟩
                              case measure => simp [intOf]; omega
                      ·   go_simp
                          refine hK _ _ (.inl (by kernel_rfl)) ?_
                          clear hK K
                          refine anyZ_step 8 rfl (by kernel_rfl) rfl (fun K hK => ?_)
                          go_simp
                          refine hK _ _ (.inl (by kernel_rfl)) ?_
                          clear hK K
                          refine anyZ_step 10 rfl (by kernel_rfl) rfl (fun K hK => ?_)
                          go_simp
                          refine hK _ _ (.inl (by kernel_rfl)) ?_
                          clear hK K
                          refine anyZ_done (by kernel_rfl) ?_ _
                          have hj40 := HJ4.out _ ⟨rfl, rfl, rfl, rfl⟩
                          have HJ40 := Lib.hid hj40
                          clear hj40 HJ4
                          clear hpa
                          go_wp2
                          clear hpb
                          rw [Nat.add_sub_cancel_left]
                          obtain ⟨xb, hxb⟩ : ∃ xb, xb = W2.heap.size := ⟨_, rfl⟩
                          rw [← hxb] at HJ40
                          rw [← hxb]
                          clear hxb
                          go_loopw [77] (fun t wr => ∃ m : Nat, t = .int .i64 m ∧ m ≤ nr ∧ J4 (.slice (some ⟨lb, lo, none⟩) i lc) j xb m wr) (fun t _ => nr - (intOf t).toNat)
                          case atStart => exact ⟨0, rfl, Nat.zero_le _, HJ40.out⟩
                          case round =>
                            obtain ⟨m, rfl, hm, hj⟩ := hrel
                            clear HJ40
                            by_cases hlt4 : m < nr
                            · obtain ⟨x9, y, g1, hp⟩ := H4.out xb m wr hj hlt4
                              have HP := Lib.hid hp
                              have hpbe := HPB.out (by omega)
                              subst hpbe
                              have g2 : wr.cell? ⟨ob, op + 1 + m, none⟩ = some (.int .i64 x9) := by rw [Nat.add_assoc]; exact g1
                              clear hp hj g1
                              go_wp2
                              obtain ⟨v, q1, qc, qa⟩ := HP.out
                              have QC := Lib.hid qc
                              have QA := Lib.hid qa
                              clear qc qa HP
                              refine wp_region_z (fun W => W.cell? ⟨xb, 1, none⟩ = some v) 8 (by kernel_rfl) ?_
                              have hS : wr.drew.cell? ⟨xb, 1, none⟩ = some v := q1
                              refine anyZ_marks (fuel := 5) (a' := ?h2) [true, true, true, true, false, false, false, false, false] rfl hS (fun _ _ d _ _ h => by cases d <;> exact h) (by kernel_rfl) (fun W hW => ?_) ?_
                              rotate_left
                              · simp only [pick]
                                repeat (go_big_quiet_step (fail))
                                refine wpQuiet_nil ?_
                                show _ = _
                                with_reducible rfl
                              refine anyZ_step 4 rfl (by kernel_rfl) rfl (fun K hK => ?_)
                              refine wp_call_closure _ _ rfl rfl rfl HG.out ?_
                              refine (QC.out wr.drew ⟨rfl, rfl, rfl, rfl⟩).mono ?_
                              rintro e W9 ⟨rfl, k9, hk9⟩
                              have q2 : W9.cell? ⟨xb, 1, none⟩ = some v := by rw [hk9]; exact q1
                              have q3 : Eqw (wr.alloc (.cells #[.int .i64 y] 3)) (W9.alloc (.cells #[.int .i64 y] 3)) := by rw [hk9]; exact ⟨rfl, rfl, rfl, rfl⟩
                              have q4 : W9.heap.size = wr.heap.size := by rw [hk9]; rfl
                              clear hk9
                              obtain ⟨va, vn, vc, W2, a1, a2, a3, a4⟩ := QA.out _ q3
                              rw [← q4] at a1
                              have HA1 := Lib.hid a1
                              have HA4 := Lib.hid a4
                              have q5 := alloc_cell q2 (.cells #[.int .i64 y] 3)
                              clear a1 a4 q3 q4
                              refine ⟨_, rfl, ?_⟩
                              refine hK _ _ (.inr q2) ?_
                              clear hK K hS
                              refine anyZ_step 5 rfl (by kernel_rfl) rfl (fun K hK => ?_)
                              go_simp
                              refine hK _ _ (.inr q5) ?_
                              clear hK K
                              refine anyZ_step 6 rfl (by kernel_rfl) rfl (fun K hK => ?_)
                              refine wp_app_value 35 _ _ rfl rfl rfl HA1.out ?_
                              refine hK _ _ (.inr a2) ?_
                              clear hK K q5 q2 q1
                              refine anyZ_step 7 rfl (by kernel_rfl) rfl (fun K hK => ?_)
                              go_simp
                              refine hK _ _ (.inr a2) ?_
                              clear hK K
                              refine anyZ_step 8 rfl (by kernel_rfl) rfl (fun K hK => ?_)
                              go_simp
                              refine hK _ _ (.inl (by kernel_rfl)) ?_
                              clear hK K
                              refine anyZ_done (by kernel_rfl) ?_ _
                              go_wp2
                              go_roundw
                              case rel => exact ⟨m + 1, by go_num, by omega, HA4.out _ ⟨rfl, rfl, rfl, rfl⟩⟩
                              case measure => simp [intOf]; omega
                            · have hmn : m = nr := by omega
                              subst hmn
                              obtain ⟨v0, a1, b1, d1, a2, b2, d2, ov, f0, f1, f2, f3, va, vn, vc, W8, hrun, f4, f5, hj3⟩ := HE.out xb wr hj
                              have HR8 := Lib.hid hrun
                              have HJ8 := Lib.hid hj3
                              clear hrun hj3 hj
                              go_wp2_with (at_builtin; refine Lib.wpList_append_run _ rfl _ _ _ _ rfl _ _ rfl rfl _ _ HR8.out ?_)
                              go_roundw
                              case rel => exact ⟨j + 1, by go_num, by omega, HJ8.out⟩
                              case measure => simp [intOf]; omega
                  ·   go_simp
                      refine hK _ _ (.inr k3x) ?_
                      clear hK K
                      refine anyZ_step 7 rfl (by kernel_rfl) rfl (fun K hK => ?_)
                      go_simp
                      go_at_call 48
                      refine (HA.out (wr.alloc (.cells #[.int .i64 0, .slice none 0 0, .slice none 0 0] 67)).drew ⟨rfl, rfl, rfl, rfl⟩).mono ?_
                      rintro e W2 ⟨ra, rn, rc, rfl, cx, fx, hj4⟩
                      obtain ⟨u0, cx0⟩ := cx 0 (by omega)
                      obtain ⟨u1, cx1⟩ := cx 1 (by omega)
                      obtain ⟨u2, cx2⟩ := cx 2 (by omega)
                      have fx0 := fx 0
                      have fx1 := fx 1
                      have fx2 := fx 2
                      have HJ4 := Lib.hid hj4
                      clear hj4 cx fx
                      refine hK _ _ (.inl (by kernel_rfl)) ?_
                      clear hK K
                      refine anyZ_step 8 rfl (by kernel_rfl) rfl (fun K hK => ?_)
                      go_simp
                      refine hK _ _ (.inl (by kernel_rfl)) ?_
                      clear hK K
                      refine anyZ_step 10 rfl (by kernel_rfl) rfl (fun K hK => ?_)
                      go_simp
                      refine hK _ _ (.inl (by kernel_rfl)) ?_
                      clear hK K
                      refine anyZ_done (by kernel_rfl) ?_ _
                      have hj40 := HJ4.out _ ⟨rfl, rfl, rfl, rfl⟩
                      have HJ40 := Lib.hid hj40
                      clear hj40 HJ4
                      clear hpa
                      go_wp2
                      clear hpb
                      rw [Nat.add_sub_cancel_left]
                      obtain ⟨xb, hxb⟩ : ∃ xb, xb = wr.heap.size := ⟨_, rfl⟩
                      rw [← hxb] at HJ40
                      rw [← hxb]
                      clear hxb
                      go_loopw [77] (fun t wr => ∃ m : Nat, t = .int .i64 m ∧ m ≤ nr ∧ J4 (.slice (some ⟨lb, lo, none⟩) i lc) j xb m wr) (fun t _ => nr - (intOf t).toNat)
                      case atStart => exact ⟨0, rfl, Nat.zero_le _, HJ40.out⟩
                      case round =>
                        obtain ⟨m, rfl, hm, hj⟩ := hrel
                        clear HJ40
                        by_cases hlt4 : m < nr
                        · obtain ⟨x9, y, g1, hp⟩ := H4.out xb m wr hj hlt4
                          have HP := Lib.hid hp
                          have hpbe := HPB.out (by omega)
                          subst hpbe
                          have g2 : wr.cell? ⟨ob, op + 1 + m, none⟩ = some (.int .i64 x9) := by rw [Nat.add_assoc]; exact g1
                          clear hp hj g1
                          go_wp2
                          obtain ⟨v, q1, qc, qa⟩ := HP.out
                          have QC := Lib.hid qc
                          have QA := Lib.hid qa
                          clear qc qa HP
                          refine wp_region_z (fun W => W.cell? ⟨xb, 1, none⟩ = some v) 8 (by kernel_rfl) ?_
                          have hS : wr.drew.cell? ⟨xb, 1, none⟩ = some v := q1
                          refine anyZ_marks (fuel := 5) (a' := ?h3) [true, true, true, true, false, false, false, false, false] rfl hS (fun _ _ d _ _ h => by cases d <;> exact h) (by kernel_rfl) (fun W hW => ?_) ?_
                          rotate_left
                          · simp only [pick]
                            repeat (go_big_quiet_step (fail))
                            refine wpQuiet_nil ?_
                            show _ = _
                            with_reducible rfl
                          refine anyZ_step 4 rfl (by kernel_rfl) rfl (fun K hK => ?_)
                          refine wp_call_closure _ _ rfl rfl rfl HG.out ?_
                          refine (QC.out wr.drew ⟨rfl, rfl, rfl, rfl⟩).mono ?_
                          rintro e W9 ⟨rfl, k9, hk9⟩
                          have q2 : W9.cell? ⟨xb, 1, none⟩ = some v := by rw [hk9]; exact q1
                          have q3 : Eqw (wr.alloc (.cells #[.int .i64 y] 3)) (W9.alloc (.cells #[.int .i64 y] 3)) := by rw [hk9]; exact ⟨rfl, rfl, rfl, rfl⟩
                          have q4 : W9.heap.size = wr.heap.size := by rw [hk9]; rfl
                          clear hk9
                          obtain ⟨va, vn, vc, W2, a1, a2, a3, a4⟩ := QA.out _ q3
                          rw [← q4] at a1
                          have HA1 := Lib.hid a1
                          have HA4 := Lib.hid a4
                          have q5 := alloc_cell q2 (.cells #[.int .i64 y] 3)
                          clear a1 a4 q3 q4
                          refine ⟨_, rfl, ?_⟩
                          refine hK _ _ (.inr q2) ?_
                          clear hK K hS
                          refine anyZ_step 5 rfl (by kernel_rfl) rfl (fun K hK => ?_)
                          go_simp
                          refine hK _ _ (.inr q5) ?_
                          clear hK K
                          refine anyZ_step 6 rfl (by kernel_rfl) rfl (fun K hK => ?_)
                          refine wp_app_value 35 _ _ rfl rfl rfl HA1.out ?_
                          refine hK _ _ (.inr a2) ?_
                          clear hK K q5 q2 q1
                          refine anyZ_step 7 rfl (by kernel_rfl) rfl (fun K hK => ?_)
                          go_simp
                          refine hK _ _ (.inr a2) ?_
                          clear hK K
                          refine anyZ_step 8 rfl (by kernel_rfl) rfl (fun K hK => ?_)
                          go_simp
                          refine hK _ _ (.inl (by kernel_rfl)) ?_
                          clear hK K
                          refine anyZ_done (by kernel_rfl) ?_ _
                          go_wp2
                          go_roundw
                          case rel => exact ⟨m + 1, by go_num, by omega, HA4.out _ ⟨rfl, rfl, rfl, rfl⟩⟩
                          case measure => simp [intOf]; omega
                        · have hmn : m = nr := by omega
                          subst hmn
                          obtain ⟨v0, a1, b1, d1, a2, b2, d2, ov, f0, f1, f2, f3, va, vn, vc, W8, hrun, f4, f5, hj3⟩ := HE.out xb wr hj
                          have HR8 := Lib.hid hrun
                          have HJ8 := Lib.hid hj3
                          clear hrun hj3 hj
                          go_wp2_with (at_builtin; refine Lib.wpList_append_run _ rfl _ _ _ _ rfl _ _ rfl rfl _ _ HR8.out ?_)
                          go_roundw
                          case rel => exact ⟨j + 1, by go_num, by omega, HJ8.out⟩
                          case measure => simp [intOf]; omega
              ·   go_simp
                  refine hK _ _ (.inr k3x) ?_
                  clear hK K
                  refine anyZ_step 3 rfl (by kernel_rfl) rfl (fun K hK => ?_)
                  go_simp
                  go_at_call 47
                  refine (H47.out _).mono ?_
                  rintro e w' ⟨rfl, rfl⟩
                  refine hK _ _ (.inr k3x) ?_
                  clear hK K
                  refine anyZ_step 7 rfl (by kernel_rfl) rfl (fun K hK => ?_)
                  go_simp
                  go_at_call 48
                  refine (HA.out (wr.alloc (.cells #[.int .i64 0, .slice none 0 0, .slice none 0 0] 67)).drew ⟨rfl, rfl, rfl, rfl⟩).mono ?_
                  rintro e W2 ⟨ra, rn, rc, rfl, cx, fx, hj4⟩
                  obtain ⟨u0, cx0⟩ := cx 0 (by omega)
                  obtain ⟨u1, cx1⟩ := cx 1 (by omega)
                  obtain ⟨u2, cx2⟩ := cx 2 (by omega)
                  have fx0 := fx 0
                  have fx1 := fx 1
                  have fx2 := fx 2
                  have HJ4 := Lib.hid hj4
                  clear hj4 cx fx
                  refine hK _ _ (.inl (by kernel_rfl)) ?_
                  clear hK K
                  refine anyZ_step 8 rfl (by kernel_rfl) rfl (fun K hK => ?_)
                  go_simp
                  refine hK _ _ (.inl (by kernel_rfl)) ?_
                  clear hK K
                  refine anyZ_step 10 rfl (by kernel_rfl) rfl (fun K hK => ?_)
                  go_simp
                  refine hK _ _ (.inl (by kernel_rfl)) ?_
                  clear hK K
                  refine anyZ_done (by kernel_rfl) ?_ _
                  have hj40 := HJ4.out _ ⟨rfl, rfl, rfl, rfl⟩
                  have HJ40 := Lib.hid hj40
                  clear hj40 HJ4
                  clear hpa
                  go_wp2
                  clear hpb
                  rw [Nat.add_sub_cancel_left]
                  obtain ⟨xb, hxb⟩ : ∃ xb, xb = wr.heap.size := ⟨_, rfl⟩
                  rw [← hxb] at HJ40
                  rw [← hxb]
                  clear hxb
                  go_loopw [77] (fun t wr => ∃ m : Nat, t = .int .i64 m ∧ m ≤ nr ∧ J4 (.slice (some ⟨lb, lo, none⟩) i lc) j xb m wr) (fun t _ => nr - (intOf t).toNat)
                  case atStart => exact ⟨0, rfl, Nat.zero_le _, HJ40.out⟩
                  case round =>
                    obtain ⟨m, rfl, hm, hj⟩ := hrel
                    clear HJ40
                    by_cases hlt4 : m < nr
                    · obtain ⟨x9, y, g1, hp⟩ := H4.out xb m wr hj hlt4
                      have HP := Lib.hid hp
                      have hpbe := HPB.out (by omega)
                      subst hpbe
                      have g2 : wr.cell? ⟨ob, op + 1 + m, none⟩ = some (.int .i64 x9) := by rw [Nat.add_assoc]; exact g1
                      clear hp hj g1
                      go_wp2
                      obtain ⟨v, q1, qc, qa⟩ := HP.out
                      have QC := Lib.hid qc
                      have QA := Lib.hid qa
                      clear qc qa HP
                      refine wp_region_z (fun W => W.cell? ⟨xb, 1, none⟩ = some v) 8 (by kernel_rfl) ?_
                      have hS : wr.drew.cell? ⟨xb, 1, none⟩ = some v := q1
                      refine anyZ_marks (fuel := 5) (a' := ?h4) [true, true, true, true, false, false, false, false, false] rfl hS (fun _ _ d _ _ h => by cases d <;> exact h) (by kernel_rfl) (fun W hW => ?_) ?_
                      rotate_left
                      · simp only [pick]
                        repeat (go_big_quiet_step (fail))
                        refine wpQuiet_nil ?_
                        show _ = _
                        with_reducible rfl
                      refine anyZ_step 4 rfl (by kernel_rfl) rfl (fun K hK => ?_)
                      refine wp_call_closure _ _ rfl rfl rfl HG.out ?_
                      refine (QC.out wr.drew ⟨rfl, rfl, rfl, rfl⟩).mono ?_
                      rintro e W9 ⟨rfl, k9, hk9⟩
                      have q2 : W9.cell? ⟨xb, 1, none⟩ = some v := by rw [hk9]; exact q1
                      have q3 : Eqw (wr.alloc (.cells #[.int .i64 y] 3)) (W9.alloc (.cells #[.int .i64 y] 3)) := by rw [hk9]; exact ⟨rfl, rfl, rfl, rfl⟩
                      have q4 : W9.heap.size = wr.heap.size := by rw [hk9]; rfl
                      clear hk9
                      obtain ⟨va, vn, vc, W2, a1, a2, a3, a4⟩ := QA.out _ q3
                      rw [← q4] at a1
                      have HA1 := Lib.hid a1
                      have HA4 := Lib.hid a4
                      have q5 := alloc_cell q2 (.cells #[.int .i64 y] 3)
                      clear a1 a4 q3 q4
                      refine ⟨_, rfl, ?_⟩
                      refine hK _ _ (.inr q2) ?_
                      clear hK K hS
                      refine anyZ_step 5 rfl (by kernel_rfl) rfl (fun K hK => ?_)
                      go_simp
                      refine hK _ _ (.inr q5) ?_
                      clear hK K
                      refine anyZ_step 6 rfl (by kernel_rfl) rfl (fun K hK => ?_)
                      refine wp_app_value 35 _ _ rfl rfl rfl HA1.out ?_
                      refine hK _ _ (.inr a2) ?_
                      clear hK K q5 q2 q1
                      refine anyZ_step 7 rfl (by kernel_rfl) rfl (fun K hK => ?_)
                      go_simp
                      refine hK _ _ (.inr a2) ?_
                      clear hK K
                      refine anyZ_step 8 rfl (by kernel_rfl) rfl (fun K hK => ?_)
                      go_simp
                      refine hK _ _ (.inl (by kernel_rfl)) ?_
                      clear hK K
                      refine anyZ_done (by kernel_rfl) ?_ _
                      go_wp2
                      go_roundw
                      case rel => exact ⟨m + 1, by go_num, by omega, HA4.out _ ⟨rfl, rfl, rfl, rfl⟩⟩
                      case measure => simp [intOf]; omega
                    · have hmn : m = nr := by omega
                      subst hmn
                      obtain ⟨v0, a1, b1, d1, a2, b2, d2, ov, f0, f1, f2, f3, va, vn, vc, W8, hrun, f4, f5, hj3⟩ := HE.out xb wr hj
                      have HR8 := Lib.hid hrun
                      have HJ8 := Lib.hid hj3
                      clear hrun hj3 hj
                      go_wp2_with (at_builtin; refine Lib.wpList_append_run _ rfl _ _ _ _ rfl _ _ rfl rfl _ _ HR8.out ?_)
                      go_roundw
                      case rel => exact ⟨j + 1, by go_num, by omega, HJ8.out⟩
                      case measure => simp [intOf]; omega
            · have hji : j = i := by omega
              subst hji
              have HJ9 := Lib.hid hj
              clear hj
              go_wp2
              go_end0
              exact ⟨rfl, _, wr, HJ9.out, rfl, rfl, rfl, rfl⟩

end Go.Proofs.Ythjokcjdphempaa
